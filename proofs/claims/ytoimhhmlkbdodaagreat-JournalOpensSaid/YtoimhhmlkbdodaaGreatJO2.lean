/- Proved here: of JO2, that what the Go functions of this part compute is as their contracts say (texts JbJ, JbK, JbL, JbM, JbMa, JbN, JbMb, JbMc, JbO, JbP, JbQ, JbS, JbT, JbR), for every input; no condition beyond those that each theorem states. -/
import Derived.Test.YtoimhhmlkbdodaaGreatJO1
import Derived.Laws.MakeOwn
set_option linter.all false
section
/- Effects in a frame. -/
namespace Jb
open Go Go.RowKit

section
variable {P : Program} {S : Sim} {w : World} {h : Heap} {lm : Nat → Option Nat} {B : Nat} {fr : Fr} {a : Act}

theorem lcSet_eq {d : Nat} {cs : List V} {x : Nat × List V} {l : List (Nat × List V)} (h : x.1 = d) : lcSet d cs (x :: l) = (d, cs) :: l := by
  simp only [lcSet]
  rw [h, Nat.beq_refl]

theorem lcSet_gt {d : Nat} {cs : List V} {x : Nat × List V} {l : List (Nat × List V)} (h : x.1 < d) : lcSet d cs (x :: l) = x :: lcSet d cs l := by
  simp only [lcSet]
  have h1 : Nat.beq x.1 d = false := by cases hb : Nat.beq x.1 d with | false => rfl | true => have := Nat.eq_of_beq_eq_true hb; omega
  have h2 : Nat.ble x.1 d = true := Nat.ble_eq_true_of_le (by omega)
  rw [h1, h2]

theorem lcSet_lt {d : Nat} {cs : List V} {x : Nat × List V} {l : List (Nat × List V)} (h : d < x.1) : lcSet d cs (x :: l) = (d, cs) :: x :: l := by
  simp only [lcSet]
  have h1 : Nat.beq x.1 d = false := by cases hb : Nat.beq x.1 d with | false => rfl | true => have := Nat.eq_of_beq_eq_true hb; omega
  have h2 : Nat.ble x.1 d = false := by cases hb : Nat.ble x.1 d with | false => rfl | true => have := Nat.le_of_ble_eq_true hb; omega
  rw [h1, h2]

theorem mem_lcSet {d : Nat} {cs : List V} : ∀ {l : List (Nat × List V)}, (l.map (·.1)).Pairwise (· < ·) → ∀ {e}, e ∈ lcSet d cs l → e = (d, cs) ∨ (e ∈ l ∧ e.1 ≠ d)
  | [], _, e, he => by simp [lcSet] at he; exact .inl he
  | x :: l, hn, e, he => by
    simp only [List.map_cons, List.pairwise_cons] at hn
    have hl : ∀ e ∈ l, x.1 < e.1 := fun e he => hn.1 _ (List.mem_map.2 ⟨e, he, rfl⟩)
    rcases Nat.lt_trichotomy x.1 d with h | h | h
    · rw [lcSet_gt h] at he
      rcases List.mem_cons.1 he with rfl | he
      · exact .inr ⟨by simp, by omega⟩
      · rcases mem_lcSet hn.2 he with h | h
        · exact .inl h
        · exact .inr ⟨by simp [h.1], h.2⟩
    · rw [lcSet_eq h] at he
      rcases List.mem_cons.1 he with rfl | he
      · exact .inl rfl
      · exact .inr ⟨by simp [he], fun hd => by have := hl e he; omega⟩
    · rw [lcSet_lt h] at he
      rcases List.mem_cons.1 he with rfl | he
      · exact .inl rfl
      · refine .inr ⟨he, fun hd => ?_⟩
        rcases List.mem_cons.1 he with rfl | he
        · omega
        · have := hl e he; omega

theorem fst_lcSet {d : Nat} {cs : List V} : ∀ {l : List (Nat × List V)} {e}, e ∈ lcSet d cs l → e.1 = d ∨ e ∈ l
  | [], e, he => by simp [lcSet] at he; exact .inl (by rw [he])
  | x :: l, e, he => by
    rcases Nat.lt_trichotomy x.1 d with h | h | h
    · rw [lcSet_gt h] at he
      rcases List.mem_cons.1 he with rfl | he
      · exact .inr (by simp)
      · rcases fst_lcSet he with h | h
        · exact .inl h
        · exact .inr (by simp [h])
    · rw [lcSet_eq h] at he
      rcases List.mem_cons.1 he with rfl | he
      · exact .inl rfl
      · exact .inr (by simp [he])
    · rw [lcSet_lt h] at he
      rcases List.mem_cons.1 he with rfl | he
      · exact .inl rfl
      · exact .inr he

theorem nodup_lcSet {d : Nat} {cs : List V} : ∀ {l : List (Nat × List V)}, (l.map (·.1)).Pairwise (· < ·) → ((lcSet d cs l).map (·.1)).Pairwise (· < ·)
  | [], _ => by simp [lcSet]
  | x :: l, h => by
    simp only [List.map_cons, List.pairwise_cons] at h
    have hl : ∀ e ∈ l, x.1 < e.1 := fun e he => h.1 _ (List.mem_map.2 ⟨e, he, rfl⟩)
    rcases Nat.lt_trichotomy x.1 d with hx | hx | hx
    · rw [lcSet_gt hx]
      simp only [List.map_cons, List.pairwise_cons]
      refine ⟨fun y hy => ?_, nodup_lcSet h.2⟩
      obtain ⟨e, he, rfl⟩ := List.mem_map.1 hy
      rcases fst_lcSet he with h | h
      · omega
      · exact hl e h
    · rw [lcSet_eq hx]
      simp only [List.map_cons, List.pairwise_cons]
      exact ⟨fun y hy => by
        obtain ⟨e, he, rfl⟩ := List.mem_map.1 hy
        have := hl e he; omega, h.2⟩
    · rw [lcSet_lt hx]
      simp only [List.map_cons, List.pairwise_cons]
      refine ⟨fun y hy => ?_, h.1, h.2⟩
      rcases List.mem_cons.1 hy with rfl | hy
      · exact hx
      · have := h.1 y hy; omega

theorem lcSet_comm {d e : Nat} (hne : d ≠ e) (cs ds : List V) : ∀ (l : List (Nat × List V)), lcSet d cs (lcSet e ds l) = lcSet e ds (lcSet d cs l)
  | [] => by
    rcases Nat.lt_trichotomy d e with h | h | h
    · rw [show lcSet e ds [] = [(e, ds)] from rfl, show lcSet d cs [] = [(d, cs)] from rfl, lcSet_lt h, lcSet_gt h]; rfl
    · exact (hne h).elim
    · rw [show lcSet e ds [] = [(e, ds)] from rfl, show lcSet d cs [] = [(d, cs)] from rfl, lcSet_gt h, lcSet_lt h]; rfl
  | x :: l => by
    rcases Nat.lt_trichotomy x.1 d with a | a | a <;> rcases Nat.lt_trichotomy x.1 e with b | b | b
    · rw [lcSet_gt b, lcSet_gt a, lcSet_gt a, lcSet_gt b, lcSet_comm hne]
    · rw [lcSet_eq b, lcSet_gt a, lcSet_gt (x := (e, ds)) (by simp; omega), lcSet_eq b]
    · rw [lcSet_lt b, lcSet_gt a, lcSet_gt (x := (e, ds)) (by simp; omega), lcSet_gt a, lcSet_lt b]
    · rw [lcSet_gt b, lcSet_eq a, lcSet_eq a, lcSet_gt (x := (d, cs)) (by simp; omega)]
    · omega
    · rw [lcSet_lt b, lcSet_eq a]
      rw [lcSet_gt (x := (e, ds)) (by simp; omega), lcSet_eq a, lcSet_lt (x := (d, cs)) (by simp; omega)]
    · rw [lcSet_gt b, lcSet_lt a, lcSet_lt a, lcSet_gt (x := (d, cs)) (by simp; omega), lcSet_gt b]
    · rw [lcSet_eq b, lcSet_lt a, lcSet_lt (x := (e, ds)) (by simp; omega), lcSet_gt (x := (d, cs)) (by simp; omega), lcSet_eq b]
    · rcases Nat.lt_trichotomy d e with h | h | h
      · rw [lcSet_lt b, lcSet_lt a, lcSet_lt (x := (e, ds)) h, lcSet_gt (x := (d, cs)) h, lcSet_lt b]
      · exact (hne h).elim
      · rw [lcSet_lt b, lcSet_lt a, lcSet_gt (x := (e, ds)) h, lcSet_lt a, lcSet_lt (x := (d, cs)) h]

theorem var_mem {d : Nat} (hne : fr.var d ≠ []) : (d, fr.var d) ∈ fr.lc := by
  unfold Fr.var at hne ⊢
  split at hne
  · rename_i e he
    have hm := List.mem_of_find?_eq_some he
    have hk := List.find?_some he
    simp at hk
    rw [← hk]
    exact hm
  · exact (hne rfl).elim

theorem local_write (H : HR S w h) (F : FR B S w h fr lm a) {d rb : Nat} {cs' : List V} {c c' : Array Value} {e : TypeId} {fz : Nat × Nat} (hd : lm d = some rb) (hne : fr.var d ≠ [])
    (hb : w.heap[rb]? = some (.cells c e fz)) (hf : Free fz c.size) (hs : c'.size = c.size) (h1 : ∀ v ∈ c'.toList, v.oneCell' = true) (hr : RelL S w cs' c'.toList) :
    HR S (setRow w rb c' e fz) h ∧ FR B S (setRow w rb c' e fz) h { fr with lc := lcSet d cs' fr.lc } lm a ∧ Le (fun rb => B ≤ rb) h S w h S (setRow w rb c' e fz) := by
  obtain ⟨rb', g1, g2, g3⟩ := F.vars _ (var_mem hne)
  simp only at g1
  rw [hd] at g1
  cases g1
  have ho := g2.1
  have hlt : rb < w.heap.size := H.lt ho
  refine ⟨⟨fun k o hk => ?_, fun k hk => ?_⟩, ?_, ?_⟩
  · have := H.obs k o hk
    cases o with
    | obj q => exact ObjRel.same (Ext_row ho) this.1 (setRow_get rb k _ e fz (by rintro rfl; exact g3 ⟨_, hk, rfl⟩)) this
    | cells cs0 => exact CellsRel.row ho (by rintro rfl; exact g3 ⟨_, hk, rfl⟩) this
    | grow es n => exact GrowRel.row ho this
  · rw [setRow_size] at hk
    exact H.fresh k hk
  · exact { size := F.size, tm := fun i v hv => (F.tm i v hv).mono (Ext_row ho), inj := F.inj, lb := F.lb, lo := F.lo, nd := nodup_lcSet F.nd, dfs := ⟨fun d hd => by
              obtain ⟨D, h1, h2, h3, h4, h5⟩ := F.dfs.1 d hd
              exact ⟨D, h1, h2, h3, h4, by rw [setRow_get rb D _ e fz (by rintro rfl; rw [hb] at h5; cases h5)]; exact h5⟩, F.dfs.2⟩
            vars := fun x hx => by
              rcases mem_lcSet F.nd hx with rfl | ⟨hx, hne'⟩
              · exact ⟨rb, hd, ⟨ho, c'.toList, ⟨e, fz, by rw [setRow_self rb _ e fz hlt], by simpa [hs] using hf⟩, hr.mono (Ext_row ho), h1⟩, g3⟩
              · obtain ⟨rb2, k1, k2, k3⟩ := F.vars x hx
                refine ⟨rb2, k1, CellsRel.row ho ?_ k2, k3⟩
                rintro rfl
                exact hne' (F.inj _ _ _ k1 hd) }
  · exact { toExt := Ext_row ho, os := rfl, tape := rfl, output := rfl, size := by rw [setRow_size]; exact Nat.le_refl _
            un := fun k hk hn => ⟨setRow_get rb k _ e fz (by rintro rfl; rw [ho] at hn; cases hn), hn⟩
            priv := fun k hk hB _ => ⟨setRow_get rb k _ e fz (by rintro rfl; exact hB (F.lb _ _ hd)), hk⟩
            dom := fun _ _ hk => hk
            all := fun _ _ hk => hk
            stays := fun _ hk => hk }

theorem cellsAt_some {l n : Nat} (hn : 0 < n) (hl : n ≤ (cellsAt h l).length) : h l = some (.cells (cellsAt h l)) := by
  unfold cellsAt at *
  split at *
  · rename_i cs e; exact e
  · simp at hl; omega

theorem store_sound (H : HR S w h) (F : FR B S w h fr lm a) (t : TypeId) {u v : V} {x y : Value} (hu : TmRel S w lm u x) (hv : TmRel S w lm v y) {K : Fr → Heap → Prop} (hK : storeW P t u v fr h K)
    (next : World → Prop) (hn : ∀ w' h' fr', K fr' h' → HR S w' h' → FR B S w' h' fr' lm a → Le (fun rb => B ≤ rb) h S w h' S w' → next w') :
    ∃ w', (Instr.storeAt t x y).run P w = .ok () w' ∧ next w' := by
  unfold storeW at hK
  split at hK
  · rename_i s ht hs
    have hs : P.cellsOf t = s + 1 := hs
    split at hK
    · exact hK.elim
    · rename_i new c hq
      split at hK
      · rename_i l off
        obtain ⟨hc, hlen, hk⟩ := hK
        cases (show Rel S w (.ptr l off) x from hu)
        obtain ⟨c1, c2, c3, c4⟩ := cells_rel hv hq hc
        have hl := cellsAt_some (h := h) (l := l) (n := off + (s + 1)) (by omega) hlen
        obtain ⟨cc, cc', e, fz, b1, b2, b3, b4, b5, b6, b7⟩ := CellsRel.write (off := off) (H.obs l _ hl) (by omega) c3 c4
        obtain ⟨cr, r1, r2⟩ := run_storeVar (P := P) (o := off) ht b1 b2 (by omega) c4 (by omega)
        have : cr = cc' := by apply Array.ext'; rw [r2, b4, c1, hs]
        subst this
        obtain ⟨g1, g2⟩ := heap_write H hl b1 b2 b5 b6 b7
        exact ⟨_, by simp [Instr.storeAt, Instr.sureAddr, r1], hn _ _ _ hk g1 (F.le H g2) (g2.weaken _)⟩
      · rename_i d off
        obtain ⟨hc, hlen, hk⟩ := hK
        obtain ⟨rb, hd, rfl⟩ := hu
        obtain ⟨c1, c2, c3, c4⟩ := cells_rel hv hq hc
        have hne : fr.var d ≠ [] := by intro h0; rw [h0] at hlen; simp at hlen
        obtain ⟨rb', g1, g2, _⟩ := F.vars _ (var_mem hne)
        simp only at g1 g2
        rw [hd] at g1
        cases g1
        obtain ⟨cc, cc', e, fz, b1, b2, b3, b4, b5, b6, b7⟩ := CellsRel.write (off := off) g2 (by omega) c3 c4
        obtain ⟨cr, r1, r2⟩ := run_storeVar (P := P) (o := off) ht b1 b2 (by omega) c4 (by omega)
        have : cr = cc' := by apply Array.ext'; rw [r2, b4, c1, hs]
        subst this
        obtain ⟨k1, k2, k3⟩ := local_write H F hd hne b1 b2 b5 b6 b7
        exact ⟨_, by simp [Instr.storeAt, Instr.sureAddr, r1], hn _ _ _ hk k1 k2 k3⟩
      · exact hK.elim
  · exact hK.elim

def men (d : Nat) : V → Prop
  | .lp e _ => e = d
  | .opt _ v => men d v
  | _ => False

theorem TmRel.rebind {v : V} {x : Value} {d n : Nat} (hm : ¬ men d v) (hv : TmRel S w lm v x) : TmRel S w (fun e => if e = d then some n else lm e) v x := by
  induction v using V.rec (motive_2 := fun _ => True) (motive_3 := fun _ => True) with
  | lp e off =>
    obtain ⟨rb, h1, h2⟩ := hv
    have : e ≠ d := hm
    exact ⟨rb, by simp [this, h1], h2⟩
  | opt b v ih => exact ⟨fun hb => ih hm (hv.1 hb), hv.2⟩
  | _ => first | trivial | exact hv

theorem local_new (H : HR S w h) (F : FR B S w h fr lm a) (hB : B ≤ w.heap.size) {d : Nat} {cs : List V} {c : Array Value} (e : TypeId) (h1 : ∀ v ∈ c.toList, v.oneCell' = true) (hr : RelL S w cs c.toList)
    (hm : ∀ (i : Nat) (v : V), fr.tm[i]? = some v → ¬ men d v) :
    HR (S.addCell w.heap.size) (w.alloc (.cells c e)) h ∧
    FR B (S.addCell w.heap.size) (w.alloc (.cells c e)) h { tm := fr.tm.set d (.lp d 0), lc := lcSet d cs fr.lc } (fun e => if e = d then some w.heap.size else lm e) (a.put (some d) (.pointer (some ⟨w.heap.size, 0, none⟩))) ∧
    Le (fun rb => B ≤ rb) h S w h (S.addCell w.heap.size) (w.alloc (.cells c e)) := by
  obtain ⟨b1, b2, b3⟩ := new_block H e h1 hr
  refine ⟨b2, ?_, b3.weaken _⟩
  have hnew : ∀ x : Nat × List V, x ∈ fr.lc → ∀ rb, lm x.1 = some rb → rb < w.heap.size := fun x hx rb hl => by
    obtain ⟨rb', k1, k2, _⟩ := F.vars x hx
    rw [hl] at k1; cases k1
    exact H.lt k2.1
  exact { size := by simp [Act.put, F.size]
          tm := fun i v hv => by
            simp only [Act.put]
            rw [List.getElem?_set] at hv
            by_cases hi : d = i
            · subst hi
              rw [if_pos rfl] at hv
              split at hv
              · rename_i hlt
                cases hv
                refine ⟨w.heap.size, by simp, ?_⟩
                have : d < a.tmps.size := by rw [F.size]; exact hlt
                simp [Array.getD, this]
              · cases hv
            · rw [if_neg hi] at hv
              have := ((F.tm i v hv).mono b3.toExt).rebind (n := w.heap.size) (hm i v hv)
              have e : (a.tmps.setIfInBounds d (.pointer (some ⟨w.heap.size, 0, none⟩))).getD i Go.undef = a.tmps.getD i Go.undef := by
                simp [Array.getElem?_setIfInBounds, hi]
              rw [e]
              exact this
          vars := fun x hx => by
            rcases mem_lcSet F.nd hx with rfl | ⟨hx, hne⟩
            · exact ⟨w.heap.size, by simp, b1, fun ⟨_, hcs, _⟩ => by rw [H.none] at hcs; cases hcs⟩
            · obtain ⟨rb, k1, k2, k3⟩ := F.vars x hx
              exact ⟨rb, by simp [hne, k1], CellsRel.alloc H _ k2, k3⟩
          inj := fun d1 d2 rb e1 e2 => by
            have hlt : ∀ d0 rb, lm d0 = some rb → rb < w.heap.size := fun d0 rb e => H.lt (F.lo d0 rb e)
            split at e1 <;> split at e2
            · omega
            · cases e1; exact absurd (hlt _ _ e2) (Nat.lt_irrefl _)
            · cases e2; exact absurd (hlt _ _ e1) (Nat.lt_irrefl _)
            · exact F.inj _ _ _ e1 e2
          lb := fun d0 rb e0 => by
            split at e0
            · cases e0; exact hB
            · exact F.lb _ _ e0
          lo := fun d0 rb e0 => by
            split at e0
            · cases e0; simp [Sim.addCell]
            · have := F.lo _ _ e0
              simp [Sim.addCell, Nat.ne_of_lt (H.lt this), this]
          nd := nodup_lcSet F.nd
          dfs := F.dfs.le H b3 }
end
end Jb
end

section
/- 'append'. -/
namespace Jb
open Go Go.RowKit

section
variable {P : Program} {S : Sim} {w : World} {h : Heap} {lm : Nat → Option Nat}

def notInt : TypeDesc → Bool
  | .slice _ | .string => true
  | _ => false

theorem src_sound {t2 : TypeId} {size : Nat} {y : V} {b : Value} {m : List (List V)} (hq : srcQ P t2 size y = some m) (hy : Rel S w y b) :
    ∃ ys : List Value, (Builtin.lenOf b).run P w = .ok m.length w ∧ (∀ w', Ext S w S w' → (Builtin.firstCells size m.length b).run P w' = .ok ys.toArray w') ∧ (∀ (i : Nat) (e : List V), m[i]? = some e → e.length = size) ∧
      RelL S w m.flatten ys ∧ (∀ x ∈ ys, x.oneCell' = true) ∧ ∃ d, P.underlying t2 = some d ∧ notInt d = true := by
  unfold srcQ at hq
  split at hq
  · rename_i e es m' g hu
    split at hq
    · rename_i hes
      rw [beq_iff_eq] at hes
      subst hes
      cases hq
      rcases slice_parts hy with ⟨rfl, ⟨b0, rfl⟩, _⟩ | ⟨rb, o, cap, xs, rfl, hes, hcap, _, hlen, hk, hr⟩
      · refine ⟨[], rfl, fun w' _ => by cases b0 <;> simp [Builtin.firstCells, loadCells, loadCellsFrom], fun i e h => by simp at h, .nil, fun x h => (by cases h), _, hu, rfl⟩
      · refine ⟨xs, rfl, ?_, hlen, hr, kept_one hk, _, hu, rfl⟩
        · intro w' E
          simp only [Builtin.firstCells]
          exact kept_load (fun i y hy => E.keeps _ _ _ (hk i y hy)) _ (by rw [hr.1, flatten_length es m hlen])
    · cases hq
  · rename_i s hu
    split at hq
    · cases hq
      cases hy
      refine ⟨s.data.toList.map fun c => .int .u8 c.toNat, ?_, ?_, ?_, ?_, ?_, _, hu, rfl⟩
      · simp [Builtin.lenOf]
      · intro w' _
        simp only [Builtin.firstCells, List.length_map, Array.length_toList]
        have : (s.extract 0 s.data.size).data = s.data := by
          have : s.extract 0 s.size = s := by simp
          exact congrArg ByteArray.data this
        rw [this]
        simp only [Sem.run_pure]
        congr 1
        apply Array.ext'
        simp
      · intro i e he
        simp only [List.getElem?_map, Option.map_eq_some_iff] at he
        obtain ⟨c, _, rfl⟩ := he
        rfl
      · have hfl : (s.data.toList.map fun b => [V.int .u8 b.toNat]).flatten = s.data.toList.map fun b => V.int .u8 b.toNat := by
          induction s.data.toList with
          | nil => rfl
          | cons a l ih => simp [ih]
        rw [hfl]
        refine ⟨by simp, fun i v x hv hx => ?_⟩
        simp only [List.getElem?_map, Option.map_eq_some_iff] at hv hx
        obtain ⟨c, hc, rfl⟩ := hv
        obtain ⟨c', hc', rfl⟩ := hx
        rw [hc] at hc'
        cases hc'
        exact .int _ _
      · intro x hx
        obtain ⟨c, _, rfl⟩ := List.mem_map.1 hx
        rfl
    · cases hq
  · cases hq

theorem growBy_le (n : Nat) : ∀ (r c : Nat), c ≤ 2 * n + 1024 → Builtin.growBy n r c ≤ 4 * n + 4096
  | 0, c, h => by simp [Builtin.growBy]; omega
  | r + 1, c, h => by
    simp only [Builtin.growBy]
    split
    · omega
    · exact growBy_le n r _ (by omega)

theorem nextslicecap_le (n c : Nat) (h : c ≤ n) : Builtin.nextslicecap n c ≤ 4 * n + 4096 := by
  unfold Builtin.nextslicecap
  split
  · omega
  · split
    · omega
    · exact growBy_le n 4 c (by omega)

theorem append_run {t t2 e : TypeId} {i : TypeInfo} {base : Option Addr} {n cap : Nat} {b : Value} {m : Nat} {d : TypeDesc} {ys : List Value} {z : Value} (ty : TypeId) (more : List TypeId)
    (ht : P.underlying t = some (.slice e)) (h2 : P.underlying t2 = some d) (hd : notInt d = true) (hi : P.info? e = some i) (hb : i.bytes ≤ 4096)
    (hl : (Builtin.lenOf b).run P w = .ok m w) (hf : (Builtin.firstCells i.size m b).run P w = .ok ys.toArray w) (hz : (zeroValue e).run P w = .ok z w) (hm : n + m ≤ mostLen) (hcap : n ≤ cap) :
    (n + m ≤ cap → (Builtin.append_ (t :: t2 :: more).toArray ty #[.slice base n cap, b]).run P w =
      ((match base with | some a => storeCells (a.add (n * i.size)) ys | none => pure () : Sem Unit).run P w).andThen fun _ w' => .ok (.slice base (n + m) cap) w') ∧
    (cap < n + m → ∀ old : List Value, (Builtin.firstCells i.size n (.slice base n cap)).run P w.drew = .ok old.toArray w.drew → (Builtin.firstCells i.size m b).run P w.drew = .ok ys.toArray w.drew → (zeroValue e).run P w.drew = .ok z w.drew →
      ∃ nc, n + m ≤ nc ∧ (Builtin.append_ (t :: t2 :: more).toArray ty #[.slice base n cap, b]).run P w =
        .ok (.slice (some ⟨w.heap.size, 0, none⟩) (n + m) nc) (w.drew.alloc (.cells (old ++ ys ++ (Builtin.zeroCells z.cells (nc - (n + m))).toList).toArray e))) := by
  have hs : (Go.sizeOf e).run P w = .ok i.size w := by simp [Go.sizeOf, typeInfo, hi]
  have hlt : ¬ ((n + m : Nat) : Int) > IntKind.i64.max := by
    have : (4294967296 : Int) ≤ IntKind.i64.max := by decide
    unfold mostLen at hm
    omega
  have hnx : ¬ Builtin.nextslicecap (n + m) cap * i.bytes > 2 ^ 48 ∨ ¬ cap < n + m := by
    by_cases h : cap < n + m
    · left
      have h1 := nextslicecap_le (n + m) cap (by omega)
      have h3 : Builtin.nextslicecap (n + m) cap * i.bytes ≤ (4 * (n + m) + 4096) * 4096 := Nat.mul_le_mul h1 hb
      unfold mostLen at hm
      have : (2 : Nat) ^ 48 = 281474976710656 := rfl
      omega
    · exact .inr h
  have hti : (typeInfo e).run P w = .ok i w := by simp [typeInfo, hi]
  have htd : (typeInfo e).run P w.drew = .ok i w.drew := by simp [typeInfo, hi]
  cases d <;> try (cases hd; done)
  all_goals
  constructor
  · intro hle
    simp only [Builtin.append_]
    simp only [List.getElem?_toArray, List.getElem?_cons_zero, List.getElem?_cons_succ]
    simp only [Sem.run_bind, run_underlying' ht, hs, run_underlying' h2, Sem.run_pure, Result.andThen_ok, Bool.false_eq_true, if_false, Bool.not_false, if_true]
    (try rw [Sem.run_bind])
    rw [hl]
    simp only [Result.andThen_ok]
    rw [if_pos hle]
    (try rw [Sem.run_bind])
    rw [hf]
    simp only [Result.andThen_ok]
    cases base with
    | none => rfl
    | some a => simp
  · intro hgt old ho hf' hz'
    have hcut : ∃ nc, n + m ≤ nc ∧ (choose (.appendCap (n + m) cap e)).run P w = .ok nc w.drew := by
      refine ⟨n + m + (w.tape w.drawn (.appendCap (n + m) cap e)) % (2 ^ 63 - (n + m)), by omega, ?_⟩
      rw [run_choose]
      rfl
    obtain ⟨nc, hnc, hch⟩ := hcut
    refine ⟨nc, hnc, ?_⟩
    simp only [Builtin.append_]
    simp only [List.getElem?_toArray, List.getElem?_cons_zero, List.getElem?_cons_succ]
    simp only [Sem.run_bind, run_underlying' ht, hs, run_underlying' h2, Sem.run_pure, Result.andThen_ok, Bool.false_eq_true, if_false, Bool.not_false, if_true]
    (try rw [Sem.run_bind])
    rw [hl]
    simp only [Result.andThen_ok]
    rw [if_neg (by omega)]
    (try rw [Sem.run_bind])
    rw [hti]
    simp only [Result.andThen_ok]
    rw [if_neg (fun hh => hlt hh.1)]
    (try rw [Sem.run_bind])
    rw [hti]
    simp only [Result.andThen_ok]
    rw [if_neg (hnx.resolve_right (by simpa using hgt))]
    (try rw [Sem.run_bind])
    rw [hch]
    simp only [Result.andThen_ok]
    (try rw [Sem.run_bind])
    rw [htd]
    simp only [Result.andThen_ok]
    (try rw [Sem.run_bind])
    rw [run_askRoom]
    simp only [Result.andThen_ok]
    (try rw [Sem.run_bind])
    rw [ho]
    simp only [Result.andThen_ok]
    (try rw [Sem.run_bind])
    rw [hf']
    simp only [Result.andThen_ok]
    (try rw [Sem.run_bind])
    rw [hz']
    simp only [Result.andThen_ok]
    (try rw [Sem.run_bind])
    rw [alloc_run]
    simp only [Result.andThen_ok]
    simp only [Sem.run_pure]
    congr 3
    apply Array.ext'
    simp
end
end Jb
end

section
/- 'append': the frame's view. -/
namespace Jb
open Go Go.RowKit

section
variable {P : Program} {S : Sim} {w : World} {h : Heap} {lm : Nat → Option Nat}

def Eff (h : Heap) (S : Sim) (w : World) (K : V → Heap → Prop) (r : Result Value) : Prop :=
  ∃ v z w' h' S', r = .ok z w' ∧ K v h' ∧ HR S' w' h' ∧ Rel S' w' v z ∧ Le (fun _ => False) h S w h' S' w'

def Sim.stampNew (S : Sim) (nb s lo n cap : Nat) (old : Option Nat) : Sim :=
  { own := fun k => if k = nb then some (.stamp s lo) else if some k = old then none else S.own k
    top := fun k => if k = s then some n else S.top k
    sig := fun k => if k = s then (nb, 0, cap) else S.sig k }

theorem grow_new (H : HR S w h) {s es n cap : Nat} {old : Option Nat} {c : Array Value} {e : TypeId} (hes : 0 < es) (hcap : n ≤ cap) (hsz : cap * es ≤ c.size)
    (htop : ∀ m, S.top s = some m → m < n) (hold : ∀ k, old = some k → ∃ lo, S.own k = some (.stamp s lo))
    (hslt : s < w.heap.size + 1) (hs0 : s < w.heap.size → h s ≠ none) :
    HR (S.stampNew w.heap.size s (n * es) n cap old) (w.drew.alloc (.cells c e)) (h.upd s (.grow es n)) ∧
    Le (fun _ => False) h S w (h.upd s (.grow es n)) (S.stampNew w.heap.size s (n * es) n cap old) (w.drew.alloc (.cells c e)) := by
  have hget : ∀ k, k < w.heap.size → (w.drew.alloc (.cells c e)).heap[k]? = w.heap[k]? := fun k hk => Below.heap_alloc w.drew _ k hk
  have hE : Ext S w (S.stampNew w.heap.size s (n * es) n cap old) (w.drew.alloc (.cells c e)) := by
    refine ⟨fun k off x ⟨h1, h2, h3⟩ => ?_, fun s' m hm => ?_⟩
    · have hlt : k < w.heap.size := World.block_lt_of_cell? w _ h2
      refine ⟨?_, ?_, h3⟩
      · unfold Sim.stable at h1 ⊢
        by_cases hko : some k = old
        · simp [Sim.stampNew, Nat.ne_of_lt hlt, hko]
        · simpa [Sim.stampNew, Nat.ne_of_lt hlt, hko] using h1
      · rw [World.cell?_of_block (w := w) (hget k hlt)]; exact h2
    · simp only [Sim.stampNew]
      by_cases hk : s' = s
      · subst hk
        have := htop m hm
        exact ⟨n, by simp, by omega, fun e => by omega⟩
      · exact ⟨m, by simp [hk, hm], Nat.le_refl _, fun _ => by simp [hk]⟩
  have hB : ∀ k c0, Block w k c0 → Block (w.drew.alloc (.cells c e)) k c0 := fun k c0 hb => by
    have hlt := hb.lt
    obtain ⟨e0, fz, h1, h2⟩ := hb
    exact ⟨e0, fz, by rw [hget k hlt]; exact h1, h2⟩
  have hcellown : ∀ k, S.own k = some .cell → (S.stampNew w.heap.size s (n * es) n cap old).own k = some .cell := fun k hk => by
    have hlt := H.lt hk
    simp only [Sim.stampNew, Nat.ne_of_lt hlt, if_false]
    split
    · rename_i ho
      obtain ⟨lo, h1⟩ := hold k ho.symm
      rw [hk] at h1
      cases h1
    · exact hk
  refine ⟨⟨?_, ?_⟩, ?_⟩
  · intro k o hk
    simp only [Heap.upd] at hk
    split at hk
    · rename_i hks
      subst hks
      cases hk
      refine ⟨by simp [Sim.stampNew], hes, w.heap.size, 0, cap, by simp [Sim.stampNew], hcap, by simp [Sim.stampNew], c, ⟨e, (0, 0), ?_, .inl rfl⟩, by omega⟩
      show (w.heap.push (.cells c e))[w.heap.size]? = _
      simp
    · rename_i hks
      have := H.obs k o hk
      cases o with
      | cells cs =>
        obtain ⟨h1, xs, h2, h3, h4⟩ := this
        exact ⟨hcellown _ h1, xs, hB _ _ h2, h3.mono hE, h4⟩
      | obj q => exact ObjRel.same hE (hcellown _ this.1) (hget k (H.lt this.1)) this
      | grow es' n' =>
        obtain ⟨h1, h2, r, o, cap', h3, h4, h5, c', h6, h7⟩ := this
        have hlt := h6.lt
        refine ⟨by simp [Sim.stampNew, hks, h1], h2, r, o, cap', by simp [Sim.stampNew, hks, h3], h4, ?_, c', hB _ _ h6, h7⟩
        simp only [Sim.stampNew, Nat.ne_of_lt hlt, if_false]
        split
        · rename_i ho
          obtain ⟨lo, h1⟩ := hold r ho.symm
          rw [h5] at h1
          injection h1 with h1
          injection h1 with e1 e2
          exact (hks e1).elim
        · exact h5
  · intro k hk
    rw [World.size_alloc] at hk
    have hk : w.heap.size + 1 ≤ k := hk
    have := H.fresh k (by omega)
    refine ⟨?_, ?_⟩
    · simp only [Sim.stampNew, show k ≠ w.heap.size by omega, if_false]
      split
      · rfl
      · exact this.1
    · simp [Sim.stampNew, show k ≠ s by omega, this.2]
  · exact { toExt := hE, os := rfl, tape := rfl, output := rfl, size := by rw [World.size_alloc]; exact Nat.le_succ _
            un := fun k hk hn => ⟨hget k hk, by simp only [Sim.stampNew, Nat.ne_of_lt hk, if_false, hn]; split <;> rfl⟩
            priv := fun k hk _ _ => ⟨hget k (H.lt hk), hcellown k hk⟩
            dom := fun k _ ⟨o, hk, hb⟩ => by
              simp only [Heap.upd] at hk
              split at hk
              · cases hk; cases hb
              · exact ⟨_, hk, hb⟩
            all := fun k hlt hk => by
              simp only [Heap.upd]
              split
              · rename_i e'; subst e'; exact (hs0 hlt hk).elim
              · exact hk
            stays := fun k hk => hcellown k hk }

def Sim.stampOn (S : Sim) (rb s lo n : Nat) : Sim :=
  { own := fun k => if k = rb then some (.stamp s lo) else S.own k
    top := fun k => if k = s then some n else S.top k
    sig := S.sig }

theorem grow_on (H : HR S w h) {s es n m rb o cap : Nat} {c c' : Array Value} {e : TypeId} {fz : Nat × Nat} (hs : h s = some (.grow es n)) (hsig : S.sig s = (rb, o, cap)) (hcap : n + m ≤ cap)
    (hb : w.heap[rb]? = some (.cells c e fz)) (hf : Free fz c.size) (hsz : c'.size = c.size) (hkeep : ∀ i, i < o + n * es → c'[i]? = c[i]?) :
    HR (S.stampOn rb s (o + (n + m) * es) (n + m)) (setRow w rb c' e fz) (h.upd s (.grow es (n + m))) ∧
    Le (fun _ => False) h S w (h.upd s (.grow es (n + m))) (S.stampOn rb s (o + (n + m) * es) (n + m)) (setRow w rb c' e fz) := by
  obtain ⟨g1, g2, rb', o', cap', g3, g4, g5, cc, g6, g7⟩ := H.obs s _ hs
  rw [hsig] at g3
  cases g3
  have hlt : rb < w.heap.size := g6.lt
  have hmul : n * es ≤ (n + m) * es := Nat.mul_le_mul_right _ (by omega)
  have hE : Ext S w (S.stampOn rb s (o + (n + m) * es) (n + m)) (setRow w rb c' e fz) := by
    refine ⟨fun k off x ⟨h1, h2, h3⟩ => ?_, fun s' q hq => ?_⟩
    · by_cases hk : k = rb
      · subst hk
        unfold Sim.stable at h1
        rw [g5] at h1
        simp only at h1
        refine ⟨by unfold Sim.stable; simp only [Sim.stampOn, if_true]; omega, ?_, h3⟩
        have h2' : c[off]? = some x := by simpa [World.cell?, hb] using h2
        have : (setRow w k c' e fz).cell? ⟨k, off, none⟩ = c'[off]? := by simp [World.cell?, setRow_self k _ e fz hlt]
        rw [this, hkeep off (by omega), h2']
      · refine ⟨?_, ?_, h3⟩
        · unfold Sim.stable at h1 ⊢
          simpa [Sim.stampOn, hk] using h1
        · rw [World.cell?_of_block (w := w) (setRow_get rb k c' e fz hk)]; exact h2
    · simp only [Sim.stampOn]
      by_cases hk : s' = s
      · subst hk
        rw [g1] at hq
        cases hq
        exact ⟨n + m, by simp, by omega, by simp⟩
      · exact ⟨q, by simp [hk, hq], Nat.le_refl _, by simp⟩
  have hcell : ∀ k, S.own k = some .cell → k ≠ rb := fun k hk => by rintro rfl; rw [hk] at g5; cases g5
  refine ⟨⟨?_, ?_⟩, ?_⟩
  · intro k ob hk
    simp only [Heap.upd] at hk
    split at hk
    · rename_i hks
      subst hks
      cases hk
      refine ⟨by simp [Sim.stampOn], g2, rb, o, cap, by simp [Sim.stampOn, hsig], hcap, by simp [Sim.stampOn], c', ⟨e, fz, by rw [setRow_self rb _ e fz hlt], by simpa [hsz] using hf⟩, ?_⟩
      obtain ⟨e2, fz2, k1, _⟩ := g6
      rw [hb] at k1
      cases k1
      rw [hsz]; exact g7
    · rename_i hks
      have := H.obs k ob hk
      cases ob with
      | cells cs =>
        obtain ⟨h1, xs, h2, h3, h4⟩ := this
        exact ⟨by simp [Sim.stampOn, hcell k h1, h1], xs, h2.row (hcell k h1), h3.mono hE, h4⟩
      | obj q => exact ObjRel.same hE (by simp [Sim.stampOn, hcell k this.1, this.1]) (setRow_get rb k _ e fz (hcell k this.1)) this
      | grow es' n' =>
        obtain ⟨h1, h2, r, o2, cap2, h3, h4, h5, c2, h6, h7⟩ := this
        have hr : r ≠ rb := by
          rintro rfl
          rw [g5] at h5
          injection h5 with h5
          injection h5 with e1 e2
          exact hks e1.symm
        exact ⟨by simp [Sim.stampOn, hks, h1], h2, r, o2, cap2, h3, h4, by simp [Sim.stampOn, hr, h5], c2, h6.row hr, h7⟩
  · intro k hk
    rw [setRow_size] at hk
    have := H.fresh k hk
    have hks : k ≠ s := by rintro rfl; rw [this.2] at g1; cases g1
    exact ⟨by simp [Sim.stampOn, show k ≠ rb by omega, this.1], by simp [Sim.stampOn, hks, this.2]⟩
  · exact { toExt := hE, os := rfl, tape := rfl, output := rfl, size := by rw [setRow_size]; exact Nat.le_refl _
            un := fun k hk hn => by
              have : k ≠ rb := by rintro rfl; rw [hn] at g5; cases g5
              exact ⟨setRow_get rb k _ e fz this, by simp [Sim.stampOn, this, hn]⟩
            priv := fun k hk _ _ => ⟨setRow_get rb k _ e fz (hcell k hk), by simp [Sim.stampOn, hcell k hk, hk]⟩
            dom := fun k _ ⟨o, hk, hb'⟩ => by
              simp only [Heap.upd] at hk
              split at hk
              · cases hk; cases hb'
              · exact ⟨_, hk, hb'⟩
            all := fun k _ hk => by
              simp only [Heap.upd]
              split
              · rename_i e'; subst e'; rw [hs] at hk; cases hk
              · exact hk
            stays := fun k hk => by simp [Sim.stampOn, hcell k hk, hk] }

theorem kept_append {rb o : Nat} {xs ys : List Value} (h1 : KeptRow S w rb o xs) (h2 : KeptRow S w rb (o + xs.length) ys) : KeptRow S w rb o (xs ++ ys) := by
  intro i y hy
  by_cases hi : i < xs.length
  · rw [List.getElem?_append_left hi] at hy
    exact h1 i y hy
  · rw [List.getElem?_append_right (by omega)] at hy
    have := h2 _ y hy
    rwa [show o + xs.length + (i - xs.length) = o + i from by omega] at this

theorem KeptRow.mono {S' : Sim} {w' : World} {rb o : Nat} {xs : List Value} (E : Ext S w S' w') (hk : KeptRow S w rb o xs) : KeptRow S' w' rb o xs := fun i y hy => E.keeps _ _ _ (hk i y hy)

theorem value_new (H : HR S w h) {s es cap : Nat} {old : Option Nat} {l : List (List V)} {xs more : List Value} {e : TypeId} (hes : 0 < es) (hlen : ∀ (i : Nat) (e : List V), l[i]? = some e → e.length = es)
    (hcap : l.length ≤ cap) (hr : RelL S w l.flatten xs) (ho : ∀ x ∈ xs, x.oneCell' = true)
    (E : Ext S w (S.stampNew w.heap.size s (l.length * es) l.length cap old) (w.drew.alloc (.cells (xs ++ more).toArray e))) :
    Rel (S.stampNew w.heap.size s (l.length * es) l.length cap old) (w.drew.alloc (.cells (xs ++ more).toArray e)) (.sl es l (.own s)) (.slice (some ⟨w.heap.size, 0, none⟩) l.length cap) := by
  refine block_slice (xs := xs) hes hlen hcap ⟨l.length, by simp [Sim.stampNew], Nat.le_refl _, fun _ => by simp [Sim.stampNew]⟩ ?_ (hr.mono E)
  intro i y hy
  have hi : i < xs.length := (List.getElem?_eq_some_iff.1 hy).1
  have hl : xs.length = l.length * es := by rw [hr.1, flatten_length es l hlen]
  refine ⟨?_, ?_, ho y (List.mem_of_getElem? hy)⟩
  · unfold Sim.stable
    simp only [Sim.stampNew, if_true]
    omega
  · have : (w.drew.alloc (.cells (xs ++ more).toArray e)).cell? ⟨w.heap.size, 0 + i, none⟩ = ((xs ++ more).toArray)[0 + i]? := World.cell?_alloc_new w.drew _ e (0 + i)
    rw [this]
    simp [List.getElem?_append_left hi, hy]
end
end Jb
end

section
/- Effects, all together. -/
namespace Jb
open Go Go.RowKit

section
variable {P : Program} {S : Sim} {w : World} {h : Heap} {lm : Nat → Option Nat} {B : Nat} {fr : Fr} {a : Act}

theorem run_zero_any {t : TypeId} {cs : List V} {i : TypeInfo} (hz : zeroV P t = some cs) (hi : P.info? t = some i) : ∃ z, (∀ w : World, (zeroValue t).run P w = .ok z w) ∧ z.cells.size = i.size := by
  obtain ⟨i', z, hi', hzz, hr, _, hl, _⟩ := zeroV_some (S := ⟨fun _ => none, fun _ => none, fun _ => (0, 0, 0)⟩) (w := default) hz
  rw [hi] at hi'
  cases hi'
  exact ⟨z, fun w => by simp [zeroValue, typeInfo, hi, hzz], by have := hr.1; simp at this; omega⟩

theorem zeroCells_length (z : Array Value) (n : Nat) : (Builtin.zeroCells z n).toList.length = n * z.size := by simp [Builtin.zeroCells]

def appendO (P : Program) (t t2 : TypeId) (x y : V) (h : Heap) (K : V → Heap → Prop) : Prop :=
  match P.underlying t with
  | some (.slice e) =>
    match P.info? e with
    | some i =>
      match decide (0 < i.size) && decide (i.bytes ≤ 4096), zeroV P e, x, srcQ P t2 i.size y with
      | true, some _, .sl es l g, some m =>
        match es == i.size with
        | true =>
          l.length + m.length ≤ mostLen ∧
          match g with
          | .own s => h s = some (.grow es l.length) ∧ K (.sl es (l ++ m) (.own s)) (h.upd s (.grow es (l.length + m.length)))
          | .full => match m with
            | [] => K (.sl es l .full) h
            | _ :: _ => ∀ s, h s = none → K (.sl es (l ++ m) (.own s)) (h.upd s (.grow es (l.length + m.length)))
          | .no => False
        | false => False
      | _, _, _, _ => False
    | none => False
  | _ => False

theorem appendO_of {t t2 : TypeId} {x y : V} {K : V → Heap → Prop} (hK : appendW P t t2 x y h K) : appendO P t t2 x y h K := by
  unfold appendW at hK
  split at hK
  case h_2 => exact hK.elim
  rename_i e ht
  split at hK
  case h_2 => exact hK.elim
  rename_i i hi
  split at hK
  case h_2 => exact hK.elim
  rename_i z es l g m hd hz hm
  split at hK
  case h_2 => exact hK.elim
  rename_i hes
  unfold appendO
  rw [ht]
  simp only [hi, hd, hz, hm, hes]
  refine ⟨hK.1, ?_⟩
  have h2 := hK.2
  unfold appG at h2
  split at h2
  · exact h2
  · cases m with
    | nil => rw [List.append_nil] at h2; exact h2
    | cons a m => exact h2
  · exact h2

theorem cellsAt_some' {l n : Nat} (hn : 0 < n) (hl : n ≤ (cellsAt h l).length) : h l = some (.cells (cellsAt h l)) := by
  unfold cellsAt at *
  split at *
  · rename_i cs e; exact e
  · simp at hl; omega

theorem append_sound (H : HR S w h) {t t2 : TypeId} {u v : V} {x y : Value} (more : List TypeId) (ty : TypeId) (hu : Rel S w u x) (hv : Rel S w v y) {K : V → Heap → Prop} (hK : appendW P t t2 u v h K) :
    Eff h S w K ((Builtin.append_ (t :: t2 :: more).toArray ty #[x, y]).run P w) := by
  replace hK := appendO_of hK
  unfold appendO at hK
  split at hK
  case h_2 => exact hK.elim
  rename_i e ht
  split at hK
  case h_2 => exact hK.elim
  rename_i i hi
  split at hK
  case h_2 => exact hK.elim
  rename_i z es l g m hd hz hm
  split at hK
  case h_2 => exact hK.elim
  rename_i hes0
  rw [beq_iff_eq] at hes0
  subst hes0
  simp only [Bool.and_eq_true, decide_eq_true_eq] at hd
  obtain ⟨hsz, hby⟩ := hd
  obtain ⟨hlen, hK⟩ := hK
  obtain ⟨zv, hzr, hzs⟩ := run_zero_any hz hi
  obtain ⟨ys, s1, s2, s3, s4, s5, d, s6, s7⟩ := src_sound hm hv
  have bl : Below w.heap.size w w.drew := (Below.refl _ _).drew
  have s2w := s2 w (.refl _ _)
  have s2d := s2 w.drew (Ext_below bl)
  have hfl : ∀ q : List (List V), (∀ (i' : Nat) (e : List V), q[i']? = some e → e.length = i.size) → ∀ (i' : Nat) (e : List V), (q ++ m)[i']? = some e → e.length = i.size := by
    intro q hq i' e he
    by_cases hi' : i' < q.length
    · rw [List.getElem?_append_left hi'] at he; exact hq _ _ he
    · rw [List.getElem?_append_right (by omega)] at he; exact s3 _ _ he
  have room : ∀ (old : List Value) (n nc : Nat), old.length = n * i.size → n + m.length ≤ nc →
      nc * i.size ≤ (old ++ ys ++ (Builtin.zeroCells zv.cells (nc - (n + m.length))).toList).toArray.size := by
    intro old n nc ho hn
    have h1 := zeroCells_length zv.cells (nc - (n + m.length))
    have h2 : ys.length = m.length * i.size := by rw [s4.1, flatten_length i.size m s3]
    simp only [List.size_toArray, List.length_append, ho, h2, h1, hzs]
    rw [← Nat.add_mul, ← Nat.add_mul]
    exact Nat.mul_le_mul_right _ (by omega)
  rcases slice_parts hu with ⟨rfl, ⟨b0, rfl⟩, hno⟩ | ⟨rb, o, cap, xs, rfl, q1, q2, q3, q4, q5, q6⟩
  · -- nil
    obtain ⟨r1, r2⟩ := append_run (P := P) (w := w) (base := b0) (n := 0) (cap := 0) (b := y) (m := m.length) (ys := ys) (z := zv) ty more ht s6 s7 hi hby s1 s2w (hzr w) (by simpa using hlen) (Nat.le_refl _)
    cases g with
    | own s => exact (hno s rfl).elim
    | no => exact hK.elim
    | full =>
      cases m with
      | nil =>
        have hys : ys = [] := by have := s4.1; simp at this; exact this
        subst hys
        refine ⟨.sl i.size [] .full, .slice b0 0 0, w, h, S, ?_, hK, H, hu, Le.refl _ _ _ _⟩
        rw [r1 (by simp)]
        cases b0 <;> simp [storeCells]
      | cons m0 m =>
        obtain ⟨nc, k1, k2⟩ := r2 (by simp) [] (by cases b0 <;> simp [Builtin.firstCells, loadCells, loadCellsFrom]) s2d (hzr _)
        have hroom := room [] 0 nc (by simp) (by simpa using k1)
        simp only [Nat.zero_add, List.nil_append] at k1 k2 hroom
        have G := grow_new H (s := w.heap.size) (es := i.size) (n := (m0 :: m).length) (cap := nc) (old := none)
          (c := (ys ++ (Builtin.zeroCells zv.cells (nc - (m0 :: m).length)).toList).toArray) (e := e) hsz k1 hroom (fun q hq => by rw [(H.fresh _ (Nat.le_refl _)).2] at hq; cases hq) (fun _ hk => by cases hk) (by omega) (by omega)
        have hK := hK w.heap.size H.none
        simp only [List.nil_append, List.length_nil, Nat.zero_add] at hK
        refine ⟨_, _, _, _, _, k2, hK, G.1, ?_, G.2⟩
        exact value_new H hsz s3 k1 s4 s5 G.2.toExt
  · have hxl : xs.length = l.length * i.size := by rw [q6.1, flatten_length i.size l q4]
    have q5d : KeptRow S w.drew rb o xs := q5.mono (Ext_below bl)
    obtain ⟨r1, r2⟩ := append_run (P := P) (w := w) (base := some ⟨rb, o, none⟩) (n := l.length) (cap := cap) (b := y) (m := m.length) (ys := ys) (z := zv) ty more ht s6 s7 hi hby s1 s2w (hzr w) (by simpa using hlen) q2
    have hload : (Builtin.firstCells i.size l.length (.slice (some ⟨rb, o, none⟩) l.length cap)).run P w.drew = .ok xs.toArray w.drew := by
      simp only [Builtin.firstCells]
      exact kept_load q5d _ hxl.symm
    have hfr : RelL S w (l ++ m).flatten (xs ++ ys) := by rw [List.flatten_append]; exact q6.append s4
    have hone : ∀ x ∈ xs ++ ys, x.oneCell' = true := by
      intro x hx
      rcases List.mem_append.1 hx with hx | hx
      · exact kept_one q5 x hx
      · exact s5 x hx
    cases g with
    | no => exact hK.elim
    | full =>
      have hcap : cap = l.length := q3
      subst hcap
      cases m with
      | nil =>
        have hys : ys = [] := by have := s4.1; simp at this; exact this
        subst hys
        refine ⟨.sl i.size l .full, .slice (some ⟨rb, o, none⟩) l.length l.length, w, h, S, ?_, hK, H, hu, Le.refl _ _ _ _⟩
        rw [r1 (by simp)]
        simp [storeCells]
      | cons m0 m =>
        obtain ⟨nc, k1, k2⟩ := r2 (by simp) xs hload s2d (hzr _)
        have hroom := room xs l.length nc hxl k1
        have G := grow_new H (s := w.heap.size) (es := i.size) (n := l.length + (m0 :: m).length) (cap := nc) (old := none)
          (c := (xs ++ ys ++ (Builtin.zeroCells zv.cells (nc - (l.length + (m0 :: m).length))).toList).toArray) (e := e) hsz k1 hroom (fun q hq => by rw [(H.fresh _ (Nat.le_refl _)).2] at hq; cases hq) (fun _ hk => by cases hk) (by omega) (by omega)
        have hK := hK w.heap.size H.none
        refine ⟨_, _, _, _, _, k2, hK, G.1, ?_, G.2⟩
        have hl2 : l.length + (m0 :: m).length = (l ++ m0 :: m).length := by simp
        rw [hl2] at G k1 ⊢
        exact value_new H hsz (hfl l q4) k1 hfr hone G.2.toExt
    | own s =>
      obtain ⟨hs, hK⟩ := hK
      obtain ⟨g1, g2, rb', o', cap', g3, g4, g5, cc, g6, g7⟩ := H.obs s _ hs
      obtain ⟨mm, c1, c2, c3⟩ := q3
      rw [g1] at c1
      cases c1
      have c3 := c3 rfl
      rw [g3] at c3
      cases c3
      obtain ⟨e0, fz, hb, hf⟩ := g6
      by_cases hle : l.length + m.length ≤ cap
      · -- in place
        have hyl : ys.length = m.length * i.size := by rw [s4.1, flatten_length i.size m s3]
        have hmul : l.length * i.size + m.length * i.size ≤ cap * i.size := by rw [← Nat.add_mul]; exact Nat.mul_le_mul_right _ hle
        obtain ⟨c', t1, t2'⟩ := run_storeCells (P := P) (rb := rb) (o := o + l.length * i.size) (e := e0) (fz := fz) ys 0 w cc hb hf s5 (by omega)
        simp only [Nat.add_zero] at t2'
        have hsz' : c'.size = cc.size := by
          rw [← Array.length_toList, t2']; simp; omega
        have G := grow_on H hs g3 hle hb hf hsz' (fun k hk => by
          rw [← Array.getElem?_toList, t2', List.append_assoc, List.getElem?_append_left (by simp; omega), List.getElem?_take, if_pos hk, Array.getElem?_toList])
        refine ⟨_, .slice (some ⟨rb, o, none⟩) (l.length + m.length) cap, _, _, _, ?_, hK, G.1, ?_, G.2⟩
        · rw [r1 hle]
          simp only [add_none]
          rw [t1]
          rfl
        · have hl2 : l.length + m.length = (l ++ m).length := by simp
          rw [hl2] at G ⊢
          refine block_slice (xs := xs ++ ys) hsz (hfl l q4) (by rw [← hl2]; exact hle) ⟨(l ++ m).length, by simp [Sim.stampOn], Nat.le_refl _, fun _ => by simp [Sim.stampOn, g3]⟩ ?_ (hfr.mono G.2.toExt)
          refine kept_append (q5.mono G.2.toExt) ?_
          intro k yv hk
          have hklt := (List.getElem?_eq_some_iff.1 hk).1
          refine ⟨?_, ?_, s5 yv (List.mem_of_getElem? hk)⟩
          · unfold Sim.stable
            simp only [Sim.stampOn, if_true]
            rw [← hl2, Nat.add_mul]
            omega
          · have hlt : rb < w.heap.size := (Array.getElem?_eq_some_iff.1 hb).1
            have : (setRow w rb c' e0 fz).cell? ⟨rb, o + xs.length + k, none⟩ = c'[o + xs.length + k]? := by simp [World.cell?, setRow_self rb _ e0 fz hlt]
            rw [this, ← Array.getElem?_toList, t2', hxl, List.append_assoc, List.getElem?_append_right (by simp; omega)]
            rw [show o + l.length * i.size + k - (List.take (o + l.length * i.size) cc.toList).length = k from by simp; omega]
            rw [List.getElem?_append_left hklt, hk]
      · -- a new block
        obtain ⟨nc, k1, k2⟩ := r2 (by omega) xs hload s2d (hzr _)
        have hroom := room xs l.length nc hxl k1
        have hslt : s < w.heap.size + 1 := by
          rcases Nat.lt_or_ge s (w.heap.size + 1) with h1 | h1
          · exact h1
          · have := (H.fresh s (by omega)).2; rw [g1] at this; cases this
        have G := grow_new H (s := s) (es := i.size) (n := l.length + m.length) (cap := nc) (old := some rb)
          (c := (xs ++ ys ++ (Builtin.zeroCells zv.cells (nc - (l.length + m.length))).toList).toArray) (e := e) hsz k1 hroom (fun q hq => by rw [g1] at hq; cases hq; omega) (fun _ hk => by cases hk; exact ⟨_, g5⟩) hslt (fun _ c => by rw [hs] at c; cases c)
        refine ⟨_, _, _, _, _, k2, hK, G.1, ?_, G.2⟩
        have hl2 : l.length + m.length = (l ++ m).length := by simp
        rw [hl2] at G k1 ⊢
        exact value_new H hsz (hfl l q4) k1 hfr hone G.2.toExt
end
end Jb
end

section
/- 'append' to slices that may be written to. -/
namespace Jb
open Go Go.RowKit

section
variable {P : Program} {S : Sim} {w : World} {h : Heap} {lm : Nat → Option Nat}

theorem load_part {l off n : Nat} {cs : List V} (hc : CellsRel S w l cs) (hl : off + n ≤ cs.length) :
    ∃ xs : List Value, (loadCells ⟨l, off, none⟩ n).run P w = .ok xs.toArray w ∧ RelL S w ((cs.drop off).take n) xs ∧ ∀ x ∈ xs, x.oneCell' = true := by
  obtain ⟨_, xs, ⟨e, fz, hb, hf⟩, hr, ho⟩ := hc
  refine ⟨(xs.drop off).take n, ?_, (hr.drop off).take n, fun x hx => ho x (List.mem_of_mem_drop (List.mem_of_mem_take hx))⟩
  have hlen : ((xs.drop off).take n).length = n := by rw [List.length_take, List.length_drop, hr.1]; omega
  have := run_loadCells_list (P := P) w ⟨l, off, none⟩ ((xs.drop off).take n) (fun j v hv => by
    rw [add_none]
    have hj : j < n := by have := (List.getElem?_eq_some_iff.1 hv).1; omega
    rw [List.getElem?_take, if_pos hj, List.getElem?_drop] at hv
    simp [World.cell?, hb, hv])
  rwa [hlen] at this

theorem appendM_sound (H : HR S w h) {t t2 : TypeId} {u v : V} {x y : Value} (more : List TypeId) (ty : TypeId) (hu : Rel S w u x) (hv : Rel S w v y) {K : V → Heap → Prop} (hK : appendM P t t2 u v h K) :
    Eff h S w K ((Builtin.append_ (t :: t2 :: more).toArray ty #[x, y]).run P w) := by
  unfold appendM at hK
  split at hK
  case h_2 => exact hK.elim
  rename_i e ht
  split at hK
  case h_2 => exact hK.elim
  rename_i i hi
  split at hK
  case h_2 => exact hK.elim
  rename_i z es l off n cap m hd hz hm
  split at hK
  case h_2 => exact hK.elim
  rename_i hes0
  rw [beq_iff_eq] at hes0
  subst hes0
  simp only [Bool.and_eq_true, decide_eq_true_eq] at hd
  obtain ⟨hsz, hby⟩ := hd
  obtain ⟨hlen, hm0, hroom, hK⟩ := hK
  obtain ⟨zv, hzr, hzs⟩ := run_zero_any hz hi
  obtain ⟨ys, s1, s2, s3, s4, s5, d, s6, s7⟩ := src_sound hm hv
  have bl : Below w.heap.size w w.drew := (Below.refl _ _).drew
  have s2w := s2 w (.refl _ _)
  have s2d := s2 w.drew (Ext_below bl)
  have hml : m.flatten.length = m.length * i.size := flatten_length i.size m s3
  have hyl : ys.length = m.length * i.size := by rw [s4.1, hml]
  have Hd : HR S w.drew h := H.below bl
  -- a new block
  have fresh : ∀ (old : List V) (xs : List Value) (nc : Nat) (b : Option Addr), RelL S w old xs → (∀ x ∈ xs, x.oneCell' = true) → cap < n + m.length → n + m.length ≤ nc →
      old = ((cellsAt h l).drop off).take (n * i.size) →
      (Builtin.append_ (t :: t2 :: more).toArray ty #[.slice b n cap, y]).run P w =
        .ok (.slice (some ⟨w.heap.size, 0, none⟩) (n + m.length) nc) (w.drew.alloc (.cells (xs ++ ys ++ (Builtin.zeroCells zv.cells (nc - (n + m.length))).toList).toArray e)) →
      Eff h S w K ((Builtin.append_ (t :: t2 :: more).toArray ty #[.slice b n cap, y]).run P w) := by
    intro old xs nc b hr ho hc hn hold hrun
    have hzl := zeroCells_length zv.cells (nc - (n + m.length))
    have hone : ∀ x ∈ xs ++ ys ++ (Builtin.zeroCells zv.cells (nc - (n + m.length))).toList, x.oneCell' = true := by
      intro x hx
      rcases List.mem_append.1 hx with hx | hx
      · rcases List.mem_append.1 hx with hx | hx
        · exact ho x hx
        · exact s5 x hx
      · have hx : ∃ k, k < (nc - (n + m.length)) * zv.cells.size ∧ zv.cells[k % zv.cells.size]! = x := by simpa [Builtin.zeroCells] using hx
        obtain ⟨k, hk, hx⟩ := hx
        have hk : k % zv.cells.size < zv.cells.size := Nat.mod_lt _ (by rw [hzs]; exact hsz)
        rw [getElem!_pos zv.cells _ hk] at hx
        obtain ⟨z2, h1, _, h3, _, _⟩ := run_zeroValue (w := w) S hz
        have : z2 = zv := by
          have := (hzr w).symm.trans h1
          injection this with this
          exact this.symm
        subst this
        exact h3 x (by rw [← hx]; simp)
    have hcells : RelL S w.drew (old ++ m.flatten ++ List.replicate ((nc - (n + m.length)) * i.size) .undef) (xs ++ ys ++ (Builtin.zeroCells zv.cells (nc - (n + m.length))).toList) := by
      refine RelL.append ((hr.append s4).mono (Ext_below bl)) ⟨by simp [hzl, hzs], fun j v x hv hx => ?_⟩
      rw [List.getElem?_replicate] at hv
      split at hv
      · cases hv; exact .undef _
      · cases hv
    obtain ⟨g1, g2⟩ := heap_new Hd (c := (xs ++ ys ++ (Builtin.zeroCells zv.cells (nc - (n + m.length))).toList).toArray) e hone hcells
    have hKK := hK w.heap.size 0 nc _ (.inr ⟨hc, hn, H.none, rfl, List.replicate ((nc - (n + m.length)) * i.size) .undef, by simp, rfl⟩)
    rw [← hold] at hKK
    exact ⟨_, _, _, _, _, hrun, hKK, g1, .sref _ _ _ _ _ hn, Le.trans H (Le.below _ H bl) g2⟩
  cases hu with
  | srefnil _ _ _ b =>
    obtain ⟨r1, r2⟩ := append_run (P := P) (w := w) (base := b) (n := 0) (cap := 0) (b := y) (m := m.length) (ys := ys) (z := zv) ty more ht s6 s7 hi hby s1 s2w (hzr w) (by simpa using hlen) (Nat.le_refl _)
    obtain ⟨nc, k1, k2⟩ := r2 (by omega) [] (by
      cases b with
      | none => simp [Builtin.firstCells]
      | some b => simp [Builtin.firstCells, loadCells, loadCellsFrom]) s2d (hzr _)
    exact fresh [] [] nc b .nil (fun x hx => by cases hx) (by omega) k1 (by simp) k2
  | sref _ _ _ _ _ hcap =>
    obtain ⟨r1, r2⟩ := append_run (P := P) (w := w) (base := some ⟨l, off, none⟩) (n := n) (cap := cap) (b := y) (m := m.length) (ys := ys) (z := zv) ty more ht s6 s7 hi hby s1 s2w (hzr w) hlen hcap
    by_cases hle : n + m.length ≤ cap
    · -- in place
      have hmul : n * i.size + m.length * i.size ≤ cap * i.size := by rw [← Nat.add_mul]; exact Nat.mul_le_mul_right _ hle
      have hpos : 0 < m.length * i.size := Nat.mul_pos hm0 hsz
      have hl := cellsAt_some' (h := h) (l := l) (n := off + cap * i.size) (by omega) hroom
      obtain ⟨cc, cc', e0, fz, b1, b2, b3, b4, b5, b6, b7⟩ := CellsRel.write (off := off + n * i.size) (H.obs l _ hl) (by rw [hml]; omega) s4 s5
      obtain ⟨c', t1, t2'⟩ := run_storeCells (P := P) (rb := l) (o := off + n * i.size) (e := e0) (fz := fz) ys 0 w cc b1 b2 s5 (by omega)
      simp only [Nat.add_zero] at t2'
      have : c' = cc' := by apply Array.ext'; rw [t2', b4]
      subst this
      obtain ⟨g1, g2⟩ := heap_write H hl b1 b2 b5 b6 b7
      refine ⟨_, .slice (some ⟨l, off, none⟩) (n + m.length) cap, _, _, _, ?_, hK l off cap _ (.inl ⟨hle, rfl, rfl, rfl, rfl⟩), g1, .sref _ _ _ _ _ hle, g2⟩
      rw [r1 hle]
      simp only [add_none]
      rw [t1]
      rfl
    · have hsome : ∃ xs : List Value, (Builtin.firstCells i.size n (.slice (some ⟨l, off, none⟩) n cap)).run P w.drew = .ok xs.toArray w.drew ∧ RelL S w (((cellsAt h l).drop off).take (n * i.size)) xs ∧ ∀ x ∈ xs, x.oneCell' = true := by
        have hmul : n * i.size ≤ cap * i.size := Nat.mul_le_mul_right _ hcap
        rcases Nat.eq_zero_or_pos n with h0 | h0
        · subst h0
          exact ⟨[], by simp [Builtin.firstCells, loadCells, loadCellsFrom], by simpa using RelL.nil, fun x hx => by cases hx⟩
        · have hpos : 0 < n * i.size := Nat.mul_pos h0 hsz
          have hl := cellsAt_some' (h := h) (l := l) (n := off + cap * i.size) (by omega) hroom
          obtain ⟨xs, x1, _, x3⟩ := load_part (P := P) (off := off) (n := n * i.size) (Hd.obs l _ hl) (by omega)
          obtain ⟨xs', y1, y2, _⟩ := load_part (P := P) (off := off) (n := n * i.size) (H.obs l _ hl) (by omega)
          have hxx : xs = xs' := by
            obtain ⟨_, q, ⟨e, fz, hb, hf⟩, hr, ho⟩ := H.obs l _ hl
            have hlen : ((q.drop off).take (n * i.size)).length = n * i.size := by rw [List.length_take, List.length_drop, hr.1]; omega
            have hq : ∀ j v, ((q.drop off).take (n * i.size))[j]? = some v → w.cell? ⟨l, off + j, none⟩ = some v := fun j v hv => by
              have hj : j < n * i.size := by have := (List.getElem?_eq_some_iff.1 hv).1; omega
              rw [List.getElem?_take, if_pos hj, List.getElem?_drop] at hv
              simp [World.cell?, hb, hv]
            have e1 := run_loadCells_list (P := P) w ⟨l, off, none⟩ ((q.drop off).take (n * i.size)) (fun j v hv => by rw [add_none]; exact hq j v hv)
            have e2 := run_loadCells_list (P := P) w.drew ⟨l, off, none⟩ ((q.drop off).take (n * i.size)) (fun j v hv => by rw [add_none]; exact hq j v hv)
            rw [hlen] at e1 e2
            rw [e1] at y1
            rw [e2] at x1
            injection x1 with x1
            injection y1 with y1
            have := x1.symm.trans y1
            simpa using this
          subst hxx
          exact ⟨xs, by simpa [Builtin.firstCells] using x1, y2, x3⟩
      obtain ⟨xs, x1, x2, x3⟩ := hsome
      obtain ⟨nc, k1, k2⟩ := r2 (by omega) xs x1 s2d (hzr _)
      exact fresh _ xs nc _ x2 x3 (by omega) k1 rfl k2
end
end Jb
end

section
/- An operation, under its guard, in a frame. -/
namespace Jb
open Go Go.RowKit

section
variable {P : Program} {S : Sim} {w : World} {h : Heap} {lm : Nat → Option Nat} {B : Nat} {fr : Fr} {a : Act}

theorem Rel.not_men {v : V} {x : Value} (h : Rel S w v x) (d : Nat) : ¬ men d v := by cases h <;> exact fun f => f

def NoLp (d : Nat) (fr : Fr) : Prop := ∀ (i : Nat) (v : V), fr.tm[i]? = some v → ¬ men d v

theorem NoLp.ev {d : Nat} (n : NoLp d fr) (x : Operand) : ¬ men d (fr.ev x) := by
  cases x with
  | tmp t =>
    simp only [Fr.ev, List.getD]
    cases e : fr.tm[t]? with
    | none => exact fun f => f
    | some v => exact n t v e
  | const v =>
    simp only [Fr.ev]
    exact (ofConst_rel ⟨fun _ => none, fun _ => none, fun _ => (0, 0, 0)⟩ default v).not_men d
  | global g => exact fun f => f
  | func f => exact fun f => f

theorem men_strip {d : Nat} {v : V} (h : ¬ men d v) : ¬ men d v.strip := by cases v <;> exact h

theorem NoLp.put {d : Nat} (n : NoLp d fr) (dst : Option Tmp) {v : V} (hv : ¬ men d v) : NoLp d (fr.put dst v) := by
  cases dst with
  | none => exact n
  | some t =>
    intro i u hu
    simp only [Fr.put] at hu
    rw [List.getElem?_set] at hu
    split at hu
    · split at hu
      · cases hu; exact hv
      · cases hu
    · exact n i u hu

def Clean (d : Nat) : Q → Prop
  | .ok v => ¬ men d v
  | .chk _ v => ¬ men d v
  | .bad => True

theorem moved_men {d n : Nat} {v : V} (h : ¬ men d v) : Clean d (moved n v) := by cases v <;> first | exact h | exact fun f => f | trivial

theorem deLp_men (d : Nat) (v : V) : ¬ men d v.deLp := by cases v <;> exact fun f => f

theorem rd_clean (m : Nat) (t : TypeId) (cs : List V) (off d : Nat) : Clean d (rdQ P m t cs off) := by
  unfold rdQ
  cases okT P t <;> cases (P.underlying t).isSome <;> cases aggT P t <;> simp only <;> try trivial
  · unfold shV
    split <;> first | exact fun f => f | exact deLp_men _ _ | (split <;> first | exact fun f => f | exact deLp_men _ _)
  · exact fun f => f

theorem sliceR_clean (es l off cap n d : Nat) (lo hi mx : Option V) : Clean d (sliceR es l off cap n lo hi mx) := by
  unfold sliceR
  split <;> first | trivial | exact fun f => f

theorem qop_clean (m : Nat) (o : Oper) (ρ : Operand → V) (d : Nat) (hd : ∀ x ∈ o.op.operands.toList, ¬ men d (ρ x)) :
    Clean d (qop P m fr h ρ o.op) := by
  obtain ⟨dst, op, type, pos, after, guard⟩ := o
  simp only at hd ⊢
  cases op <;> try exact True.intro
  case move x => exact hd x (by simp [Op.operands])
  case assign x => exact hd x (by simp [Op.operands])
  case build t ps =>
    simp only [qop, buildQ]
    split
    · split
      · exact fun f => f
      · trivial
    · trivial
  case buildSlice t n ps =>
    simp only [qop, buildSliceQ]
    split
    · split
      · split
        · exact fun f => f
        · trivial
      · trivial
    · trivial
  case load t x =>
    show Clean d (loadQ P m fr h t (ρ x))
    generalize ρ x = v
    cases v <;> first | trivial | exact rd_clean _ _ _ _ _
  case nilCheck x =>
    have := hd x (by simp [Op.operands])
    show Clean d (nilQ (ρ x))
    generalize ρ x = v at this
    cases v <;> first | exact this | exact fun f => f | trivial | (rename_i f _ _; cases f <;> first | exact this | exact fun f => f | trivial)
  case binOp op t x y t2 =>
    show Clean d (binQn P op t x y (ρ x) (ρ y))
    unfold binQn
    split
    · unfold nilNilQ; split <;> first | trivial | exact fun f => f
    unfold binQ
    split
    · cases op <;> simp only [strQ] <;> first | exact fun f => f | trivial
    · cases op <;> simp only [shiftQ] <;> first | exact fun f => f | (split <;> first | trivial | exact fun f => f | exact fun f => f | (simp only [intQ]; first | trivial | exact fun f => f | exact fun f => f))
    · have he : ∀ no, Clean d (eqlQ P no t (ρ x) (ρ y)) := by
        intro no
        unfold eqlQ
        repeat' split
        all_goals first | trivial | exact fun f => f | exact fun f => f
      cases op <;> first | exact he _ | trivial
  case unOp op t x =>
    show Clean d (unQ op (ρ x))
    cases ρ x <;> cases op <;> first | trivial | exact fun f => f
  case convert s t x =>
    show Clean d (convQ P h s t (ρ x))
    unfold convQ
    split <;> first | trivial | exact fun f => f | (split <;> first | trivial | exact fun f => f)
  case makeInterface t x =>
    simp only [qop]
    split <;> first | trivial | exact fun f => f
  case makeFunc f xs ys =>
    cases f <;> try exact True.intro
    case func k =>
      simp only [qop]
      split <;> first | trivial | exact fun f => f
  case slice t x lo hi mx =>
    simp only [qop, sliceQ]
    repeat' split
    all_goals first | trivial | exact fun f => f | exact fun f => f | exact sliceR_clean _ _ _ _ _ _ _ _ _
  case lookup t x i ok =>
    show Clean d (lookupQ P h t (ρ x) (ρ i) ok)
    unfold lookupQ
    repeat' split
    all_goals first | trivial | exact fun f => f | exact deLp_men _ _
  case fieldAddr s x f =>
    show Clean d (fieldAddrQ P s (ρ x) f)
    unfold fieldAddrQ
    split
    · split
      · exact moved_men (hd x (by simp [Op.operands]))
      · trivial
    · trivial
  case field t x f =>
    show Clean d (fieldQ P m t (ρ x) f)
    unfold fieldQ
    split
    · split
      · exact rd_clean _ _ _ _ _
      · trivial
    · trivial
  case index t x i =>
    show Clean d (indexQ P m t (ρ x) (ρ i))
    generalize ρ x = v
    generalize ρ i = u
    have key : ∀ (q : Q) (c : Prop), Clean d q → Clean d (q.also c) := fun q c hq => by cases q <;> exact hq
    unfold indexQ
    split
    · split
      · split
        · exact key _ _ (rd_clean _ _ _ _ _)
        · trivial
      · split
        · exact fun f => f
        · trivial
      · trivial
    · trivial
  case indexAddr t x i =>
    have hm := hd x (by simp [Op.operands])
    show Clean d (indexAddrQ P t (ρ x) (ρ i))
    generalize ρ x = v at hm
    unfold indexAddrQ
    repeat' split
    all_goals first | trivial | exact hm | exact fun f => f
  case extract x i =>
    show Clean d (extractQ (ρ x) i)
    unfold extractQ
    split
    · split
      · exact deLp_men _ _
      · trivial
    · trivial
  case call c =>
    obtain ⟨callee, args, ts⟩ := c
    cases callee <;> try exact True.intro
    case builtin b =>
      cases b <;> try exact True.intro
      case len =>
        simp only [qop, lenQ]
        repeat' split
        all_goals first | trivial | exact fun f => f
      case min =>
        simp only [qop, minmaxQ]
        repeat' split
        all_goals first | trivial | exact fun f => f
      case max =>
        simp only [qop, minmaxQ]
        repeat' split
        all_goals first | trivial | exact fun f => f
end
end Jb
end

section
/- Effects on slices as they come: append, copy, clear, new slices. -/
namespace Jb
open Go Go.RowKit

section
variable {P : Program} {S : Sim} {w : World} {h : Heap} {lm : Nat → Option Nat}

theorem chunks_len (es : Nat) : ∀ (n : Nat) (cs : List V), n * es ≤ cs.length → (chunks es n cs).length = n ∧ (∀ (i : Nat) (e : List V), (chunks es n cs)[i]? = some e → e.length = es) ∧ (chunks es n cs).flatten = cs.take (n * es)
  | 0, cs, _ => ⟨rfl, fun i e h => by simp [chunks] at h, by simp [chunks]⟩
  | n + 1, cs, h => by
    rw [Nat.add_mul, Nat.one_mul] at h
    obtain ⟨h1, h2, h3⟩ := chunks_len es n (cs.drop es) (by simp; omega)
    refine ⟨by simp [chunks, h1], fun i e he => ?_, ?_⟩
    · cases i with
      | zero => simp only [chunks, List.getElem?_cons_zero, Option.some.injEq] at he; subst he; simp; omega
      | succ i => simp only [chunks, List.getElem?_cons_succ] at he; exact h2 i e he
    · simp only [chunks, List.flatten_cons, h3]
      rw [Nat.add_mul, Nat.one_mul, Nat.add_comm (n * es) es, List.take_add]

theorem At.cells {rb o : Nat} {cs : List V} (h : At S w rb o cs) {off n : Nat} (hn : off + n ≤ cs.length) :
    ∃ xs : List Value, (∀ (j : Nat) (v : Value), xs[j]? = some v → w.cell? ⟨rb, o + (off + j), none⟩ = some v) ∧ RelL S w ((cs.drop off).take n) xs ∧ ∀ x ∈ xs, x.oneCell' = true := by
  have hf : ∀ j, j < n → ∃ x, w.cell? ⟨rb, o + (off + j), none⟩ = some x ∧ Rel S w (cs.getD (off + j) .undef) x ∧ x.oneCell' = true := fun j hj => by
    have hlt : off + j < cs.length := by omega
    exact h (off + j) _ (by simp [List.getD, List.getElem?_eq_getElem hlt])
  have hx : ∃ f : Nat → Value, ∀ j, j < n → w.cell? ⟨rb, o + (off + j), none⟩ = some (f j) ∧ Rel S w (cs.getD (off + j) .undef) (f j) ∧ (f j).oneCell' = true := by
    refine ⟨fun j => if hj : j < n then (hf j hj).choose else Go.undef, fun j hj => ?_⟩
    simp only [dif_pos hj]
    exact (hf j hj).choose_spec
  obtain ⟨f, hf⟩ := hx
  refine ⟨(List.range n).map f, ?_, ⟨?_, ?_⟩, ?_⟩
  · intro j v hv
    simp only [List.getElem?_map, Option.map_eq_some_iff] at hv
    obtain ⟨k, hk, rfl⟩ := hv
    obtain ⟨hlt, hk⟩ := List.getElem?_eq_some_iff.1 hk
    simp at hlt hk
    subst hk
    exact (hf j hlt).1
  · simp; omega
  · intro i v x hv hx
    rw [List.getElem?_take] at hv
    split at hv
    · rename_i hi
      rw [List.getElem?_drop] at hv
      simp [hi] at hx
      subst hx
      have := (hf i hi).2.1
      simpa [List.getD, hv] using this
    · cases hv
  · intro x hx
    obtain ⟨j, hj, rfl⟩ := List.mem_map.1 hx
    exact (hf j (List.mem_range.1 hj)).2.2

theorem cell_lt {a : Addr} {v : Value} (h : w.cell? a = some v) : a.block < w.heap.size := by
  rcases Nat.lt_or_ge a.block w.heap.size with h1 | h1
  · exact h1
  · simp [World.cell?, Array.getElem?_eq_none h1] at h

theorem load_below {rb o : Nat} {xs : List Value} (hx : ∀ (j : Nat) (v : Value), xs[j]? = some v → w.cell? ⟨rb, o + j, none⟩ = some v) {w' : World} (b : Below w.heap.size w w') (n : Nat) (hn : n ≤ xs.length) :
    (loadCells ⟨rb, o, none⟩ n).run P w' = .ok (xs.take n).toArray w' := by
  have hl : (xs.take n).length = n := by simp; omega
  have := run_loadCells_list (P := P) w' ⟨rb, o, none⟩ (xs.take n) (fun j v hv => by
    rw [add_none]
    rw [List.getElem?_take] at hv
    split at hv
    · have h1 := hx j v hv
      have hlt := cell_lt h1
      rw [b.cell (p := ⟨rb, o + j, none⟩) hlt]
      exact h1
    · cases hv)
  rwa [hl] at this

theorem srcH_sound (H : HR S w h) {t2 : TypeId} {size : Nat} {y : V} {b : Value} {m : List (List V)} {c : Prop} (hq : srcH P h t2 size y = some (m, c)) (hc : c) (hy : Rel S w y b) :
    ∃ ys : List Value, (Builtin.lenOf b).run P w = .ok m.length w ∧ (∀ (i : Nat) (e : List V), m[i]? = some e → e.length = size) ∧
      RelL S w m.flatten ys ∧ (∀ x ∈ ys, x.oneCell' = true) ∧ (∃ d, P.underlying t2 = some d ∧ notInt d = true) ∧
      (∀ n w', n ≤ m.length → Below w.heap.size w w' → (Builtin.firstCells size n b).run P w' = .ok (ys.take (n * size)).toArray w') := by
  unfold srcH at hq
  split at hq
  · rename_i e es l off n cap hu
    split at hq
    · rename_i hes
      rw [beq_iff_eq] at hes
      subst hes
      cases hq
      by_cases hn0 : n = 0
      · subst hn0
        have e : ∃ ba, b = .slice ba 0 cap := by cases hy <;> exact ⟨_, rfl⟩
        obtain ⟨ba, rfl⟩ := e
        refine ⟨[], rfl, fun i e h => by simp [chunks] at h, by simpa [chunks] using RelL.nil, fun x hx => (by cases hx), ⟨_, hu, rfl⟩, fun k w' hk b => ?_⟩
        have : k = 0 := by simp [chunks] at hk; omega
        subst this
        cases ba <;> simp [Builtin.firstCells, loadCells, loadCellsFrom]
      have hc := hc.resolve_left hn0
      obtain ⟨h1, h2, h3⟩ := chunks_len es n ((cellsAt h l).drop off) (by simp; omega)
      cases hy with
      | sref _ _ _ _ _ hcap =>
        obtain ⟨xs, x1, x2, x3⟩ := (H.at l).cells (off := off) (n := n * es) hc
        have hxl : xs.length = n * es := by rw [x2.1]; simp; omega
        refine ⟨xs, by rw [h1]; rfl, h2, by rw [h3]; exact x2, x3, ⟨_, hu, rfl⟩, fun k w' hk b => ?_⟩
        rw [h1] at hk
        have hke : k * es ≤ n * es := Nat.mul_le_mul_right _ hk
        have := load_below (P := P) (rb := l) (o := off) (xs := xs) (fun j v hv => by have := x1 j v hv; rwa [Nat.zero_add] at this) b (k * es) (by omega)
        simpa [Builtin.firstCells] using this
      | srefnil _ _ _ ba =>
        refine ⟨[], by rw [h1]; rfl, h2, by rw [h3]; simpa using RelL.nil, fun x hx => (by cases hx), ⟨_, hu, rfl⟩, fun k w' hk b => ?_⟩
        rw [h1] at hk
        have : k = 0 := by omega
        subst this
        cases ba <;> simp [Builtin.firstCells, loadCells, loadCellsFrom]
    · cases hq
  · split at hq
    · rename_i m' hm
      cases hq
      unfold srcQ at hm
      split at hm
      · rename_i e es m' g hu _
        split at hm
        · rename_i hes
          rw [beq_iff_eq] at hes
          subst hes
          cases hm
          rcases slice_parts hy with ⟨rfl, ⟨b0, rfl⟩, _⟩ | ⟨rb, o, cap, xs, rfl, hes, hcap, _, hlen, hk, hr⟩
          · refine ⟨[], rfl, fun i e h => by simp at h, .nil, fun x h => (by cases h), ⟨_, hu, rfl⟩, fun k w' hk b => by
              obtain rfl : k = 0 := by simpa using hk
              cases b0 <;> simp [Builtin.firstCells, loadCells, loadCellsFrom]⟩
          · refine ⟨xs, rfl, hlen, hr, kept_one hk, ⟨_, hu, rfl⟩, ?_⟩
            intro k w' hk' b
            have hxl : xs.length = m.length * es := by rw [hr.1, flatten_length es m hlen]
            have := load_below (P := P) (rb := rb) (o := o) (xs := xs) (fun j v hv => (hk j v hv).2.1) b (k * es) (by rw [hxl]; exact Nat.mul_le_mul_right _ hk')
            simpa [Builtin.firstCells] using this
        · cases hm
      · rename_i s hu _
        split at hm
        · cases hm
          cases hy
          refine ⟨s.data.toList.map fun c => .int .u8 c.toNat, ?_, ?_, ?_, ?_, ⟨_, hu, rfl⟩, ?_⟩
          · simp [Builtin.lenOf]
          · intro i e he
            simp only [List.getElem?_map, Option.map_eq_some_iff] at he
            obtain ⟨c, _, rfl⟩ := he
            rfl
          · have hfl : (s.data.toList.map fun b => [V.int .u8 b.toNat]).flatten = s.data.toList.map fun b => V.int .u8 b.toNat := by
              induction s.data.toList with
              | nil => rfl
              | cons a l ih => simp [ih]
            rw [hfl]
            refine ⟨by simp, fun i v x hv hx => ?_⟩
            simp only [List.getElem?_map, Option.map_eq_some_iff] at hv hx
            obtain ⟨c, hc, rfl⟩ := hv
            obtain ⟨c', hc', rfl⟩ := hx
            rw [hc] at hc'
            cases hc'
            exact .int _ _
          · intro x hx
            obtain ⟨c, _, rfl⟩ := List.mem_map.1 hx
            rfl
          · intro k w' hk b
            simp only [Builtin.firstCells]
            have : ((s.extract 0 k).data.toList) = s.data.toList.take k := by
              simp [ByteArray.extract, ByteArray.copySlice]
            simp only [Sem.run_pure]
            congr 1
            apply Array.ext'
            simp
        · cases hm
      · cases hm
    · cases hq
theorem put_cells (H : HR S w h) {l off : Nat} {new : List V} {ys : List Value} (hl : h l = some (.cells (cellsAt h l))) (hlen : off + new.length ≤ (cellsAt h l).length) (hr : RelL S w new ys) (ho : ∀ v ∈ ys, v.oneCell' = true) :
    ∃ w', (storeCells ⟨l, off, none⟩ ys).run P w = .ok () w' ∧ HR S w' (h.upd l (.cells (wrCells (cellsAt h l) off new))) ∧ Le (fun _ => False) h S w (h.upd l (.cells (wrCells (cellsAt h l) off new))) S w' := by
  obtain ⟨cc, cc', e0, fz, b1, b2, b3, b4, b5, b6, b7⟩ := CellsRel.write (off := off) (H.obs l _ hl) hlen hr ho
  obtain ⟨c', t1, t2'⟩ := run_storeCells (P := P) (rb := l) (o := off) (e := e0) (fz := fz) ys 0 w cc b1 b2 ho (by omega)
  simp only [Nat.add_zero] at t2'
  have : c' = cc' := by apply Array.ext'; rw [t2', b4]
  subst this
  obtain ⟨g1, g2⟩ := heap_write H hl b1 b2 b5 b6 b7
  exact ⟨_, t1, g1, g2⟩

theorem flat_take {size : Nat} : ∀ (m : List (List V)) (n : Nat), (∀ (i : Nat) (e : List V), m[i]? = some e → e.length = size) → (m.take n).flatten = m.flatten.take (n * size)
  | [], n, _ => by simp
  | e :: m, 0, _ => by simp
  | e :: m, n + 1, h => by
    have h0 := h 0 e rfl
    rw [List.take_succ_cons, List.flatten_cons, List.flatten_cons, flat_take m n (fun i e he => h (i + 1) e (by simpa using he)), Nat.add_mul, Nat.one_mul, Nat.add_comm (n * size), ← h0, List.take_length_add_append]

theorem take_len {size : Nat} (m : List (List V)) (n : Nat) (h : ∀ (i : Nat) (e : List V), m[i]? = some e → e.length = size) : (m.take n).flatten.length = min n m.length * size := by
  rw [flatten_length size (m.take n) (fun i e he => by
    rw [List.getElem?_take] at he
    split at he
    · exact h i e he
    · cases he)]
  simp

theorem copy_sound (H : HR S w h) {t t2 : TypeId} {u v : V} {x y : Value} (more : List TypeId) (ty : TypeId) (hu : Rel S w u x) (hv : Rel S w v y) {K : V → Heap → Prop} (hK : copyW P t t2 u v h K) :
    Eff h S w K ((Builtin.copy_ (t :: t2 :: more).toArray ty #[x, y]).run P w) := by
  unfold copyW at hK
  split at hK
  case h_2 => exact hK.elim
  rename_i e ht
  split at hK
  case h_2 => exact hK.elim
  rename_i i hi
  have hs : (Go.sizeOf e).run P w = .ok i.size w := by simp [Go.sizeOf, typeInfo, hi]
  split at hK
  · rename_i m c es l off n cap hm
    split at hK
    case h_2 => exact hK.elim
    rename_i hes
    rw [beq_iff_eq] at hes
    subst hes
    obtain ⟨hc, hsz, hlen, hl, hK⟩ := hK
    obtain ⟨ys, s1, s3, s4, s5, _, s7⟩ := srcH_sound H hm hc hv
    have s7' := s7 (Nat.min m.length n) w (Nat.min_le_left _ _) (.refl _ _)
    have hyt : (ys.take (Nat.min m.length n * i.size)) = ys.take (n * i.size) := by
      have hyl : ys.length = m.length * i.size := by rw [s4.1, flatten_length i.size m s3]
      rcases Nat.le_total m.length n with h1 | h1
      · have : Nat.min m.length n = m.length := Nat.min_eq_left h1
        rw [this, List.take_of_length_le (by omega), List.take_of_length_le (by rw [hyl]; exact Nat.mul_le_mul_right _ h1)]
      · have : Nat.min m.length n = n := Nat.min_eq_right h1
        rw [this]
    have hmin : min n m.length * i.size ≤ n * i.size := Nat.mul_le_mul_right _ (Nat.min_le_left _ _)
    have hput := put_cells (P := P) H (off := off) (new := (m.take n).flatten) (ys := ys.take (n * i.size)) hl (by rw [take_len m n s3]; omega)
      (by rw [flat_take m n s3]; exact s4.take _) (fun v hv => s5 v (List.mem_of_mem_take hv))
    obtain ⟨w', p1, p2, p3⟩ := hput
    cases hu with
    | sref =>
      refine ⟨_, goInt (Nat.min m.length n), w', _, _, ?_, hK, p2, ?_, p3⟩
      · simp only [Builtin.copy_]
        simp [run_underlying' ht, s1, hs, s7', hyt, p1]
      · exact .int _ _
    | srefnil _ _ _ b =>
      have s70 := s7 0 w (Nat.zero_le _) (.refl _ _)
      simp only [Nat.zero_mul, List.take_zero] at s70
      have hh : h.upd l (.cells (wrCells (cellsAt h l) off ((m.take 0).flatten))) = h := by
        funext k
        simp only [Heap.upd]
        split
        · rename_i e; subst e; rw [hl]; simp [wrCells]
        · rfl
      rw [hh] at hK
      refine ⟨_, goInt 0, w, _, _, ?_, hK, H, ?_, .refl _ _ _ _⟩
      · simp only [Builtin.copy_]
        cases b <;> simp [run_underlying' ht, s1, hs, s70, storeCells]
      · have e0 : ((min m.length 0 : Nat) : Int) = 0 := by simp
        rw [e0]
        exact Rel.int (S := S) (w := w) .i64 0
  · rename_i m c es g hm
    obtain ⟨hc, hsz, hK⟩ := hK
    obtain ⟨ys, s1, s3, s4, s5, _, s7⟩ := srcH_sound H hm hc hv
    have s70 := s7 0 w (Nat.zero_le _) (.refl _ _)
    simp only [Nat.zero_mul, List.take_zero] at s70
    rcases slice_parts hu with ⟨_, ⟨b0, rfl⟩, _⟩ | ⟨rb, o, cap, xs, rfl, _⟩
    · refine ⟨_, goInt 0, w, _, _, ?_, hK, H, .int _ _, .refl _ _ _ _⟩
      simp only [Builtin.copy_]
      cases b0 <;> simp [run_underlying' ht, s1, hs, s70, storeCells]
    · refine ⟨_, goInt 0, w, _, _, ?_, hK, H, .int _ _, .refl _ _ _ _⟩
      simp only [Builtin.copy_]
      simp [run_underlying' ht, s1, hs, s70, storeCells]
  · exact hK.elim

theorem zeros_flat (z : Value) {cs : List V} (hr : RelL S w cs z.cells.toList) (hs : 0 < z.cells.size) (n : Nat) : RelL S w (List.replicate n cs).flatten (Builtin.zeroCells z.cells n).toList := by
  have hl : cs.length = z.cells.size := by have := hr.1; simp at this; omega
  have hfl : ((List.replicate n cs).flatten).length = n * z.cells.size := by simp [hl]
  refine ⟨by rw [zeroCells_length, hfl], fun i v x hv hx => ?_⟩
  have hi : i < n * z.cells.size := by
    have := (List.getElem?_eq_some_iff.1 hv).1
    omega
  have hm : i % z.cells.size < z.cells.size := Nat.mod_lt _ hs
  have hd : i / z.cells.size < n := Nat.div_lt_of_lt_mul (by rw [Nat.mul_comm]; exact hi)
  have h1 := flatten_getElem z.cells.size (List.replicate n cs) (i / z.cells.size) (i % z.cells.size) cs
    (fun j e he => by rw [List.getElem?_replicate] at he; split at he <;> cases he; exact hl)
    (by rw [List.getElem?_replicate, if_pos hd]) hm
  rw [show i / z.cells.size * z.cells.size + i % z.cells.size = i from by have := Nat.div_add_mod i z.cells.size; rw [Nat.mul_comm] at this; omega, hv] at h1
  have h2 : x = z.cells[i % z.cells.size] := by
    simp only [Builtin.zeroCells, Array.toList_map, List.getElem?_map, Option.map_eq_some_iff] at hx
    obtain ⟨k, hk, hx⟩ := hx
    have : k = i := by
      have := (List.getElem?_eq_some_iff.1 hk).2
      simpa using this.symm
    subst this
    rw [getElem!_pos z.cells _ hm] at hx
    exact hx.symm
  subst h2
  exact hr.2 _ v _ h1.symm (by simp [hm])

theorem zeros_one (z : Value) (ho : ∀ y ∈ z.cells.toList, y.oneCell' = true) (hs : 0 < z.cells.size) (n : Nat) : ∀ y ∈ (Builtin.zeroCells z.cells n).toList, y.oneCell' = true := by
  intro y hy
  have hy : ∃ k, k < n * z.cells.size ∧ z.cells[k % z.cells.size]! = y := by simpa [Builtin.zeroCells] using hy
  obtain ⟨k, hk, hy⟩ := hy
  have hk : k % z.cells.size < z.cells.size := Nat.mod_lt _ hs
  rw [getElem!_pos z.cells _ hk] at hy
  exact ho y (by rw [← hy]; simp)

theorem clear_sound (H : HR S w h) {t : TypeId} {u : V} {x : Value} (more : List TypeId) (ty : TypeId) (hu : Rel S w u x) {K : V → Heap → Prop} (hK : clearW P t u h K) :
    Eff h S w K ((Builtin.clear_ (t :: more).toArray ty #[x]).run P w) := by
  unfold clearW at hK
  split at hK
  case h_2 => exact hK.elim
  rename_i e ht
  split at hK
  case h_2 => exact hK.elim
  rename_i i hi
  split at hK
  case h_2 => exact hK.elim
  rename_i z es l off n cap hz
  split at hK
  case h_2 => exact hK.elim
  rename_i hes
  rw [beq_iff_eq] at hes
  subst hes
  obtain ⟨hsz, hlen, hl, hK⟩ := hK
  obtain ⟨i', zv, hi', hzz, hr, h1, hzl, _, _⟩ := zeroV_some (S := S) (w := w) hz
  rw [hi] at hi'
  cases hi'
  have hzr : (zeroValue e).run P w = .ok zv w := by simp [zeroValue, typeInfo, hi, hzz]
  have hzs : zv.cells.size = i.size := by have := hr.1; simp at this; omega
  have hflat := zeros_flat zv hr (by omega) n
  have hlen2 : (List.replicate n z).flatten.length = n * i.size := by simp [hzl]
  obtain ⟨w', p1, p2, p3⟩ := put_cells (P := P) H (off := off) hl (by rw [hlen2]; exact hlen) hflat (zeros_one zv h1 (by omega) n)
  cases hu with
  | sref =>
    rcases Nat.eq_zero_or_pos n with h0 | h0
    · subst h0
      have hh : h.upd l (.cells (wrCells (cellsAt h l) off ((List.replicate 0 z).flatten))) = h := by
        funext k
        simp only [Heap.upd]
        split
        · rename_i e; subst e; rw [hl]; simp [wrCells]
        · rfl
      rw [hh] at hK
      refine ⟨_, .tuple #[], w, _, _, ?_, hK, H, .tup [] [] rfl (by simp), .refl _ _ _ _⟩
      simp [Builtin.clear_, run_underlying' ht]
    · refine ⟨_, .tuple #[], w', _, _, ?_, hK, p2, .tup [] [] rfl (by simp), p3⟩
      obtain ⟨n', rfl⟩ : ∃ n', n = n' + 1 := ⟨n - 1, by omega⟩
      simp [Builtin.clear_, run_underlying' ht, hzr, p1]
  | srefnil _ _ _ b =>
    have hh : h.upd l (.cells (wrCells (cellsAt h l) off ((List.replicate 0 z).flatten))) = h := by
      funext k
      simp only [Heap.upd]
      split
      · rename_i e; subst e; rw [hl]; simp [wrCells]
      · rfl
    rw [hh] at hK
    refine ⟨_, .tuple #[], w, _, _, ?_, hK, H, .tup [] [] rfl (by simp), .refl _ _ _ _⟩
    cases b <;> simp [Builtin.clear_, run_underlying' ht]

theorem made_zero (z : Array Value) (n : Nat) : madeCells z (n * z.size) = Builtin.zeroCells z n := rfl

theorem makeSlice_sound (H : HR S w h) {t : TypeId} {u v : V} {x y : Value} (hu : Rel S w u x) (hv : Rel S w v y) {K : V → Heap → Prop} (hK : makeSliceW P t u v h K) :
    Eff h S w K ((Instr.makeSlice t x y).run P w) := by
  unfold makeSliceW at hK
  split at hK
  case h_2 => exact hK.elim
  rename_i e ht
  split at hK
  case h_2 => exact hK.elim
  rename_i i hi
  split at hK
  case h_2 => exact hK.elim
  rename_i z k1 a k2 b hz hd
  simp only [Bool.and_eq_true, decide_eq_true_eq] at hd
  obtain ⟨hsz, hby⟩ := hd
  obtain ⟨h0, hab, hbm, hK⟩ := hK
  cases hu
  cases hv
  obtain ⟨i', zv, hi', hzz, hr, h1, hzl, _, _⟩ := zeroV_some (S := S) (w := w) hz
  rw [hi] at hi'
  cases hi'
  have hzs : zv.cells.size = i.size := by have := hr.1; simp at this; omega
  have hbm' : b ≤ 4294967296 := by unfold mostLen at hbm; exact hbm
  have hbytes : (i.bytes : Int) * b ≤ 281474976710656 := by
    have h2 : (i.bytes : Int) * b ≤ 4096 * 4294967296 := Int.mul_le_mul (by omega) hbm' (by omega) (by omega)
    omega
  have hrun := run_make (P := P) w t e i zv ht hi hzz k1 k2 a b h0 hab hbytes (by omega)
  rw [← hzs, made_zero] at hrun
  obtain ⟨g1, g2⟩ := heap_new H (cs := (List.replicate b.toNat z).flatten) (c := Builtin.zeroCells zv.cells b.toNat) e (zeros_one zv h1 (by omega) _) (zeros_flat zv hr (by omega) _)
  refine ⟨_, _, _, _, _, hrun, hK _ H.none, g1, .sref _ _ _ _ _ (by omega), g2⟩

theorem fresh_block (H : HR S w h) {e : TypeId} {old new : List V} {xs ys zs : List Value} (hr : RelL S w old xs) (hy : RelL S w new ys)
    (h1 : ∀ x ∈ xs, x.oneCell' = true) (h2 : ∀ x ∈ ys, x.oneCell' = true) (h3 : ∀ x ∈ zs, x.oneCell' = true) :
    ∃ S', HR S' (w.drew.alloc (.cells (xs ++ ys ++ zs).toArray e)) (h.upd w.heap.size (.cells (old ++ new ++ List.replicate zs.length .undef))) ∧
      Le (fun _ => False) h S w (h.upd w.heap.size (.cells (old ++ new ++ List.replicate zs.length .undef))) S' (w.drew.alloc (.cells (xs ++ ys ++ zs).toArray e)) := by
  have bl : Below w.heap.size w w.drew := (Below.refl _ _).drew
  have Hd : HR S w.drew h := H.below bl
  have hone : ∀ x ∈ xs ++ ys ++ zs, x.oneCell' = true := by
    intro x hx
    rcases List.mem_append.1 hx with hx | hx
    · rcases List.mem_append.1 hx with hx | hx
      · exact h1 x hx
      · exact h2 x hx
    · exact h3 x hx
  have hcells : RelL S w.drew (old ++ new ++ List.replicate zs.length .undef) (xs ++ ys ++ zs) := by
    refine RelL.append ((hr.append hy).mono (Ext_below bl)) ⟨by simp, fun j v x hv hx => ?_⟩
    rw [List.getElem?_replicate] at hv
    split at hv
    · cases hv; exact .undef _
    · cases hv
  obtain ⟨g1, g2⟩ := heap_new Hd (c := (xs ++ ys ++ zs).toArray) e hone hcells
  exact ⟨_, g1, Le.trans H (Le.below _ H bl) g2⟩

theorem appendD_sound (H : HR S w h) {t t2 : TypeId} {u v : V} {x y : Value} (more : List TypeId) (ty : TypeId) (hu : Rel S w u x) (hv : Rel S w v y) {K : V → Heap → Prop} (hK : appendD P t t2 u v h K) :
    Eff h S w K ((Builtin.append_ (t :: t2 :: more).toArray ty #[x, y]).run P w) := by
  unfold appendD at hK
  split at hK
  case h_2 => exact hK.elim
  rename_i e ht
  split at hK
  case h_2 => exact hK.elim
  rename_i i hi
  split at hK
  case h_2 => exact hK.elim
  rename_i z m c hd hz hm
  simp only [Bool.and_eq_true, decide_eq_true_eq] at hd
  obtain ⟨hsz, hby⟩ := hd
  obtain ⟨hc, hK⟩ := hK
  obtain ⟨ys, s1, s3, s4, s5, ⟨d, s6, s7⟩, s8⟩ := srcH_sound H hm hc hv
  obtain ⟨zv, hzr, hzs⟩ := run_zero_any hz hi
  have bl : Below w.heap.size w w.drew := (Below.refl _ _).drew
  have hml : m.flatten.length = m.length * i.size := flatten_length i.size m s3
  have hyl : ys.length = m.length * i.size := by rw [s4.1, hml]
  have hall : ∀ w', Below w.heap.size w w' → (Builtin.firstCells i.size m.length y).run P w' = .ok ys.toArray w' := fun w' b => by
    have := s8 m.length w' (Nat.le_refl _) b
    rwa [List.take_of_length_le (by omega)] at this
  have s2w := hall w (.refl _ _)
  have s2d := hall w.drew bl
  have hz1 : ∀ y ∈ zv.cells.toList, y.oneCell' = true := by
    obtain ⟨z2, h1, _, h3, _, _⟩ := run_zeroValue (w := w) S hz
    have : z2 = zv := by
      have := (hzr w).symm.trans h1
      injection this with this
      exact this.symm
    subst this
    exact h3
  split at hK
  · -- it may be written to
    rename_i es l off n cap
    split at hK
    case h_2 => exact hK.elim
    rename_i hes
    rw [beq_iff_eq] at hes
    subst hes
    obtain ⟨hlen, hin, hroom, hK0, hK1⟩ := hK
    -- a new block
    have fresh : ∀ (old : List V) (xs : List Value) (nc : Nat) (b : Option Addr), 0 < m.length → RelL S w old xs → (∀ x ∈ xs, x.oneCell' = true) → cap < n + m.length → n + m.length ≤ nc →
        old = ((cellsAt h l).drop off).take (n * i.size) →
        (Builtin.append_ (t :: t2 :: more).toArray ty #[.slice b n cap, y]).run P w =
          .ok (.slice (some ⟨w.heap.size, 0, none⟩) (n + m.length) nc) (w.drew.alloc (.cells (xs ++ ys ++ (Builtin.zeroCells zv.cells (nc - (n + m.length))).toList).toArray e)) →
        Eff h S w K ((Builtin.append_ (t :: t2 :: more).toArray ty #[.slice b n cap, y]).run P w) := by
      intro old xs nc b hm0 hr ho hcl hn hold hrun
      obtain ⟨S', g1, g2⟩ := fresh_block (e := e) H hr s4 ho s5 (zeros_one zv hz1 (by omega) (nc - (n + m.length)))
      rw [zeroCells_length, hzs, hold] at g1 g2
      have hKK := hK1 hm0 w.heap.size 0 nc _ (.inr ⟨hcl, hn, H.none, rfl, List.replicate ((nc - (n + m.length)) * i.size) .undef, by simp, rfl⟩)
      exact ⟨_, _, _, _, _, hrun, hKK, g1, .sref _ _ _ _ _ hn, g2⟩
    cases hu with
    | srefnil _ _ _ b =>
      obtain ⟨r1, r2⟩ := append_run (P := P) (w := w) (base := b) (n := 0) (cap := 0) (b := y) (m := m.length) (ys := ys) (z := zv) ty more ht s6 s7 hi hby s1 s2w (hzr w) (by simpa using hlen) (Nat.le_refl _)
      by_cases hm0 : m = []
      · subst hm0
        have : ys = [] := List.length_eq_zero_iff.1 (by simpa using hyl)
        subst this
        have r1 := r1 (by simp)
        refine ⟨_, .slice b 0 0, w, _, _, ?_, hK0 rfl, H, .srefnil _ _ _ _, .refl _ _ _ _⟩
        rw [r1]
        cases b <;> simp [storeCells]
      · have hpos : 0 < m.length := List.length_pos_iff.2 hm0
        obtain ⟨nc, k1, k2⟩ := r2 (by omega) [] (by
          cases b with
          | none => simp [Builtin.firstCells]
          | some b => simp [Builtin.firstCells, loadCells, loadCellsFrom]) s2d (hzr _)
        exact fresh [] [] nc b hpos .nil (fun x hx => by cases hx) (by omega) k1 (by simp) k2
    | sref _ _ _ _ _ hcap =>
      obtain ⟨r1, r2⟩ := append_run (P := P) (w := w) (base := some ⟨l, off, none⟩) (n := n) (cap := cap) (b := y) (m := m.length) (ys := ys) (z := zv) ty more ht s6 s7 hi hby s1 s2w (hzr w) hlen hcap
      by_cases hm0 : m = []
      · subst hm0
        have : ys = [] := List.length_eq_zero_iff.1 (by simpa using hyl)
        subst this
        have r1 := r1 (by simpa using hcap)
        refine ⟨_, .slice (some ⟨l, off, none⟩) n cap, w, _, _, ?_, hK0 rfl, H, .sref _ _ _ _ _ hcap, .refl _ _ _ _⟩
        rw [r1]
        simp [storeCells]
      · have hpos : 0 < m.length := List.length_pos_iff.2 hm0
        have hroom := hroom hpos
        by_cases hle : n + m.length ≤ cap
        · have hmul : n * i.size + m.length * i.size ≤ cap * i.size := by rw [← Nat.add_mul]; exact Nat.mul_le_mul_right _ hle
          have hpos2 : 0 < m.length * i.size := Nat.mul_pos hpos hsz
          have hl := cellsAt_some' (h := h) (l := l) (n := off + cap * i.size) (by omega) hroom
          obtain ⟨w', p1, p2, p3⟩ := put_cells (P := P) H (off := off + n * i.size) hl (by rw [hml]; omega) s4 s5
          refine ⟨_, .slice (some ⟨l, off, none⟩) (n + m.length) cap, _, _, _, ?_, hK1 hpos l off cap _ (.inl ⟨hle, rfl, rfl, rfl, rfl⟩), p2, .sref _ _ _ _ _ hle, p3⟩
          rw [r1 hle]
          simp only [add_none]
          rw [p1]
          rfl
        · have hmul : n * i.size ≤ cap * i.size := Nat.mul_le_mul_right _ hcap
          obtain ⟨xs, x1, x2, x3⟩ := (H.at l).cells (off := off) (n := n * i.size) (by omega)
          have hxl : xs.length = n * i.size := by rw [x2.1]; simp; omega
          have hld := load_below (P := P) (rb := l) (o := off) (xs := xs) (fun j v hv => by have := x1 j v hv; rwa [Nat.zero_add] at this) bl (n * i.size) (by omega)
          rw [List.take_of_length_le (by omega)] at hld
          obtain ⟨nc, k1, k2⟩ := r2 (by omega) xs (by simpa [Builtin.firstCells] using hld) s2d (hzr _)
          exact fresh _ xs nc _ hpos x2 x3 (by omega) k1 rfl k2
  · -- a value
    rename_i es l
    split at hK
    case h_2 => exact hK.elim
    rename_i hes
    rw [beq_iff_eq] at hes
    subst hes
    obtain ⟨hlen, hK0, hK1⟩ := hK
    have key : ∀ (b : Option Addr) (xs : List Value), RelL S w l.flatten xs → (∀ x ∈ xs, x.oneCell' = true) → Rel S w (.sl i.size l .full) (.slice b l.length l.length) →
        (∀ w', Below w.heap.size w w' → (Builtin.firstCells i.size l.length (.slice b l.length l.length)).run P w' = .ok xs.toArray w') →
        Eff h S w K ((Builtin.append_ (t :: t2 :: more).toArray ty #[.slice b l.length l.length, y]).run P w) := by
      intro b xs hr ho hrel hload
      obtain ⟨r1, r2⟩ := append_run (P := P) (w := w) (base := b) (n := l.length) (cap := l.length) (b := y) (m := m.length) (ys := ys) (z := zv) ty more ht s6 s7 hi hby s1 s2w (hzr w) hlen (Nat.le_refl _)
      by_cases hm0 : m = []
      · subst hm0
        have : ys = [] := List.length_eq_zero_iff.1 (by simpa using hyl)
        subst this
        have r1 := r1 (by simp)
        refine ⟨_, .slice b l.length l.length, w, _, _, ?_, hK0 rfl, H, hrel, .refl _ _ _ _⟩
        rw [r1]
        cases b <;> simp [storeCells]
      · have hpos : 0 < m.length := List.length_pos_iff.2 hm0
        obtain ⟨nc, k1, k2⟩ := r2 (by omega) xs (hload _ bl) s2d (hzr _)
        obtain ⟨S', g1, g2⟩ := fresh_block (e := e) H hr s4 ho s5 (zeros_one zv hz1 (by omega) (nc - (l.length + m.length)))
        rw [zeroCells_length, hzs, ← List.flatten_append] at g1 g2
        exact ⟨_, _, _, _, _, k2, hK1 hpos w.heap.size nc _ H.none k1 (by simp), g1, .sref _ _ _ _ _ k1, g2⟩
    rcases slice_parts hu with ⟨rfl, ⟨b0, rfl⟩, _⟩ | ⟨rb, o, cap, xs, rfl, _, _, hcl, hlen2, hk, hr⟩
    · exact key b0 [] .nil (fun x hx => by cases hx) hu (fun w' _ => by cases b0 <;> simp [Builtin.firstCells, loadCells, loadCellsFrom])
    · have : cap = l.length := hcl
      subst this
      refine key _ xs hr (kept_one hk) hu fun w' b => ?_
      have hxl : xs.length = l.length * i.size := by rw [hr.1, flatten_length i.size l hlen2]
      have := load_below (P := P) (rb := rb) (o := o) (xs := xs) (fun j v hv => (hk j v hv).2.1) b (l.length * i.size) (by omega)
      rw [List.take_of_length_le (by omega)] at this
      simpa [Builtin.firstCells] using this
  · exact hK.elim

theorem newSlice_sound (H : HR S w h) (t : TypeId) (n : Nat) (parts : List (Nat × V)) (reals : List (Nat × Value)) (hl : reals.length = parts.length)
    (hr : ∀ (i : Nat) (p : Nat × V) (r : Nat × Value), parts[i]? = some p → reals[i]? = some r → r.1 = p.1 ∧ TmRel S w lm p.2 r.2) {K : V → Heap → Prop}
    (hK : match buildSliceQ P t n parts with | .chk c (.sl es l _) => c ∧ ∀ k, h k = none → K (.sref es k 0 l.length l.length) (h.upd k (.cells l.flatten)) | _ => False) :
    Eff h S w K ((Instr.buildSlice t n reals.toArray).run P w) := by
  split at hK
  · rename_i c es l g hq
    obtain ⟨hc, hK⟩ := hK
    obtain ⟨e, es', l', xs, he, hrun, hes, hln, b2, b3, b4⟩ := buildSlice_run (S := S) (w := w) (lm := lm) t n parts reals hl hr hq hc
    cases he
    obtain ⟨g1, g2⟩ := heap_new H (c := xs.toArray) e b4 b3
    have hK := hK _ H.none
    rw [hln] at hK
    exact ⟨_, _, _, _, _, hrun, hK, g1, .sref _ _ _ _ _ (Nat.le_refl _), g2⟩
  · exact hK.elim

theorem freeze_sound (H : HR S w h) {s e : TypeId} {es l o n c : Nat} {x : Value} (hs : P.underlying s = some (.slice e)) (he : P.underlying e = some (.int .u8)) (hn : 0 < n) (hl : h l = some (.cells (cellsAt h l)))
    (hx : Rel S w (.sref es l o n c) x) {K : V → Heap → Prop} (hK : K (.sref es l o n c) h) : Eff h S w K ((convert s s x).run P w) := by
  have same : h.upd l (.cells (cellsAt h l)) = h := by
    funext k
    simp only [Heap.upd]
    split
    · rename_i e; subst e; rw [hl]
    · rfl
  cases hx with
  | srefnil _ _ _ b => omega
  | sref _ _ _ _ _ hcap =>
    obtain ⟨ho, xs, ⟨e0, fz, hb, hf⟩, hr, h1⟩ := H.obs l _ hl
    obtain ⟨lo, hi⟩ := fz
    have hF : Free (if lo == hi then (xs.toArray.size, xs.toArray.size + 1) else (min lo xs.toArray.size, max hi (xs.toArray.size + 1))) xs.toArray.size := by
      rcases hf with hf | hf
      · simp only at hf
        subst hf
        simp [Free]
      · simp only at hf
        split
        · exact .inr (Nat.le_refl _)
        · right
          simp only
          omega
    have hw : w.freeze ⟨l, xs.toArray.size, none⟩ 1 = setRow w l xs.toArray e0 (if lo == hi then (xs.toArray.size, xs.toArray.size + 1) else (min lo xs.toArray.size, max hi (xs.toArray.size + 1))) := by
      unfold World.freeze setRow
      rw [if_neg (by omega)]
      congr 1
      have hlt := (Array.getElem?_eq_some_iff.1 hb).1
      apply Array.ext_getElem?
      intro k
      rw [Array.getElem?_modify, Array.getElem?_setIfInBounds]
      by_cases hk : l = k
      · subst hk
        have hb2 : w.heap[l] = .cells xs.toArray e0 (lo, hi) := (Array.getElem?_eq_some_iff.1 hb).2
        simp [hlt, hb2]
      · simp [hk]
    obtain ⟨g1, g2⟩ := heap_put (cs' := cellsAt h l) (c := xs.toArray) (c' := xs.toArray) (e := e0) H hl hF rfl h1 hr
    rw [same] at g1 g2
    refine ⟨_, .slice (some ⟨l, o, none⟩) n c, _, _, _, ?_, hK, g1, .sref _ _ _ _ _ hcap, g2⟩
    rw [← hw]
    have hsh : w.shape? l = some (e0, xs.toArray.size) := by simp [World.shape?, hb]
    simp [convert, run_underlying' hs, run_underlying' he, markStringish, hsh]

theorem eqIn_sl (d : Nat) {t e : TypeId} (ht : P.underlying t = some (.slice e)) (b0 : Option Addr) (n c : Nat) : (Op.equalIn (d + 1) t (.slice b0 n c) (.slice none 0 0)).run P w = .ok b0.isNone w := by
  cases b0 <;> simp [Op.equalIn, run_underlying' ht]

theorem slNil_sound {t e : TypeId} (ht : P.underlying t = some (.slice e)) (no : Bool) (b0 : Option Addr) (n c : Nat) (y : Operand) :
    ((do eqGuard (eqOp no) t y (.const (.slice none 0 0)) (.slice b0 n c) (.slice none 0 0); binOp (eqOp no) t (.slice b0 n c) (.slice none 0 0)) : Sem Value).run P w = .ok (.bool (neg no b0.isNone)) w := by
  have h : (Op.equal t (.slice b0 n c) (.slice none 0 0)).run P w = .ok b0.isNone w := eqIn_sl _ ht b0 n c
  have hg : (eqGuard (eqOp no) t y (.const (.slice none 0 0)) (.slice b0 n c) (.slice none 0 0)).run P w = .ok () w := by cases no <;> simp [eqGuard, eqOp]
  cases no
  · simp only [Sem.run_bind, hg, Result.andThen_ok]; exact run_eql t _ _ _ h (by simp) (by simp) (by simp) (by simp)
  · simp only [Sem.run_bind, hg, Result.andThen_ok]; exact run_neq t _ _ _ h (by simp) (by simp) (by simp) (by simp)
end
end Jb
end

section
/- Maps: new ones, and entries. -/
namespace Jb
open Go Go.RowKit

section
variable {P : Program} {S : Sim} {w : World} {h : Heap} {lm : Nat → Option Nat}

theorem newMap_sound (H : HR S w h) (t : TypeId) {K : V → Heap → Prop} (hK : ∀ k, h k = none → K (.map (some k)) (h.upd k (.obj (.map [])))) : Eff h S w K ((Instr.makeMap t none).run P w) := by
  obtain ⟨g1, g2⟩ := obj_new H (.map #[] 0) (.map []) ⟨#[], 0, rfl, rfl, fun i k v e h => by simp at h⟩
  exact ⟨_, .map (some w.heap.size), _, _, _, rfl, hK _ H.none, g1, .map _, g2⟩

theorem bytes_beq_symm {a b : ByteArray} (h : (a == b) = true) : (b == a) = true := by
  obtain ⟨a⟩ := a
  obtain ⟨b⟩ := b
  have h : (a == b) = true := h
  have : a = b := by simpa using h
  subst this
  exact h

theorem sameNow_eq {d : TypeDesc} {x y : Value} (h : Instr.sameNow d x y = some true) : Instr.sameBits 10000 y x = true := by
  unfold Instr.sameNow at h
  split at h
  · split at h
    · rename_i hk
      subst hk
      simp at h
      subst h
      simp [Instr.sameBits]
    · cases h
  · rename_i a b
    have h : (a == b) = true := by simpa using h
    simpa [Instr.sameBits] using bytes_beq_symm h
  · rename_i a b
    have : a = b := by simpa using h
    subst this
    simp [Instr.sameBits]
  · cases h

theorem upd_sound {k u : V} {x : Value} {d : TypeDesc} (hk : Rel S w k x) (hd : fitK d k = true) :
    ∀ (es : List (V × V)) (ents : List MapEntry) (i : Nat) (es' : List (V × V)), ents.length = es.length →
      (∀ (j : Nat) (a b : V) (e : MapEntry), es[j]? = some (a, b) → ents[j]? = some e → Rel S w a e.key ∧ Rel S w b e.val) → updV k u es = some es' →
      (Instr.findNow d x ents i = some none ∧ es' = es ++ [(k, u)]) ∨
      (∃ j e, Instr.findNow d x ents i = some (some (i + j, e.val)) ∧ ents[j]? = some e ∧ Instr.sameNow d x e.key = some true ∧ es' = es.set j (k, u))
  | [], ents, i, es', hl, _, hf => by
    have : ents = [] := List.length_eq_zero_iff.1 hl
    subst this
    simp only [updV] at hf
    cases hf
    exact .inl ⟨rfl, rfl⟩
  | (a, b) :: es, ents, i, es', hl, hr, hf => by
    cases ents with
    | nil => simp at hl
    | cons e ents =>
      have h0 := hr 0 a b e rfl rfl
      simp only [updV] at hf
      split at hf
      · rename_i he
        cases hf
        have := keyEq_sound hk h0.1 he hd
        exact .inr ⟨0, e, by rw [Instr.findNow, this]; rfl, rfl, this, rfl⟩
      · rename_i he
        have hne := keyEq_sound hk h0.1 he hd
        split at hf
        · rename_i l hl'
          cases hf
          rcases upd_sound hk hd es ents (i + 1) l (by simpa using hl) (fun j a b e h1 h2 => hr (j + 1) a b e (by simpa using h1) (by simpa using h2)) hl' with ⟨g1, g2⟩ | ⟨j, e', g1, g2, g3, g4⟩
          · exact .inl ⟨by rw [Instr.findNow, hne]; exact g1, by rw [g2]; rfl⟩
          · exact .inr ⟨j + 1, e', by rw [Instr.findNow, hne]; simp only; rw [g1]; congr 3; omega, by simpa using g2, g3, by rw [g4]; rfl⟩
        · cases hf
      · cases hf

theorem mapUpdate_sound (H : HR S w h) (t : TypeId) {m k v : V} {x y z : Value} (hm : Rel S w m x) (hk : TmRel S w lm k y) (hv : TmRel S w lm v z) {K : Heap → Prop} (hK : mapUpdateW P t m k v h K) :
    ∃ w' h', (Instr.mapUpdate t x y z).run P w = .ok () w' ∧ K h' ∧ HR S w' h' ∧ Le (fun _ => False) h S w h' S w' := by
  unfold mapUpdateW at hK
  split at hK
  case h_2 => exact hK.elim
  rename_i kt vt r ht
  split at hK
  case h_2 => exact hK.elim
  rename_i es hkt hr hp
  split at hK
  case h_2 => exact hK.elim
  rename_i es' hu
  cases hm
  obtain ⟨d, hud, hd⟩ := keyT_some hkt
  have hkr : Rel S w k y := by
    cases k <;> first | exact hk | (cases d <;> simp [fitK] at hd)
  have hvr : Rel S w v z := hv.rel hp
  obtain ⟨ho, o, hob, ents, clock, rfl, hs, hre⟩ := H.obs r _ hr
  have hl : ents.toList.length = es.length := by simpa using hs
  have hput : ∀ (es2 : Array MapEntry) (c2 : Nat), { w with heap := w.heap.setIfInBounds r (.map es2 c2) } = w.putObj r (.map es2 c2) := fun es2 c2 => rfl
  rcases upd_sound hkr hd es ents.toList 0 es' hl (fun j a b e h1 h2 => hre j a b e h1 (by rw [← Array.getElem?_toList]; exact h2)) hu with ⟨g1, g2⟩ | ⟨j, e, g1, g2, g3, g4⟩
  · have hq : OQRel S w (.map es') (.map (ents.push { key := y, val := z, born := clock }) (clock + 1)) := by
      refine ⟨_, _, rfl, by rw [g2]; simp [hs], fun i a b e h1 h2 => ?_⟩
      rw [g2] at h1
      by_cases hi : i < es.length
      · rw [List.getElem?_append_left hi] at h1
        rw [Array.getElem?_push, if_neg (by omega)] at h2
        exact hre i a b e h1 h2
      · rw [List.getElem?_append_right (by omega)] at h1
        have : i = es.length := by
          have := (List.getElem?_eq_some_iff.1 h1).1
          simp at this; omega
        subst this
        simp at h1
        rw [Array.getElem?_push, if_pos hs.symm] at h2
        cases h2
        obtain ⟨rfl, rfl⟩ := h1
        exact ⟨hkr, hvr⟩
    obtain ⟨q1, q2⟩ := obj_turn H hr _ hq
    refine ⟨_, _, ?_, hK, q1, q2⟩
    simp only [Instr.mapUpdate, Sem.run_bind, run_underlying' ht, Result.andThen_ok, MapKept.run_getObj_map hob, run_checkKey _ hkt, Instr.findKey, run_underlying' hud, g1, Sem.run_pure]
    rw [MapKept.run_setObj_map _ hob]
    rfl
  · rw [Nat.zero_add] at g1
    have hge : ents[j]? = some e := by rw [← Array.getElem?_toList]; exact g2
    have hq : OQRel S w (.map es') (.map (ents.modify j fun e => { e with key := y, val := z }) clock) := by
      refine ⟨_, _, rfl, by rw [g4]; simp [hs], fun i a b e' h1 h2 => ?_⟩
      rw [g4, List.getElem?_set] at h1
      rw [Array.getElem?_modify] at h2
      by_cases hi : j = i
      · rw [if_pos hi] at h1 h2
        split at h1
        · cases h1
          obtain ⟨e0, _, rfl⟩ := Option.map_eq_some_iff.1 h2
          exact ⟨hkr, hvr⟩
        · cases h1
      · rw [if_neg hi] at h1 h2
        exact hre i a b e' h1 h2
    obtain ⟨q1, q2⟩ := obj_turn H hr _ hq
    refine ⟨_, _, ?_, hK, q1, q2⟩
    have hsb := sameNow_eq g3
    simp only [Instr.mapUpdate, Sem.run_bind, run_underlying' ht, Result.andThen_ok, MapKept.run_getObj_map hob, run_checkKey _ hkt, Instr.findKey, run_underlying' hud, g1, Sem.run_pure, hge, Option.map_some, Option.getD_some, Instr.keyThatStays,
      Sem.run_ite, hsb, if_true]
    rw [MapKept.run_setObj_map _ hob]
    rfl
end
end Jb
end

section
/- An operation with an effect; any operation under its guard. -/
namespace Jb
open Go Go.RowKit

section
variable {P : Program} {S : Sim} {w : World} {h : Heap} {lm : Nat → Option Nat} {B : Nat} {fr : Fr} {a : Act}

theorem shV_need {t : TypeId} {r : V} {K : V → Prop} (h : (shV P 0 t True r).need K) : K r := by
  obtain ⟨c, v, e, hc⟩ := shV_same P 0 t True r
  rw [e] at h
  have := (hc h.1).2.1
  rw [← this]
  exact h.2

theorem shape1_same {mt : Nat} {t : TypeId} {r : V} {K : V → Prop} (h : shape1 P mt t r K) : K r := by
  unfold shape1 at h
  split at h
  · unfold ptrK at h
    split at h <;> first | exact h | exact h.elim
  · rw [isRef_eq h.1]; exact h.2
  · have h1 := h.1
    have : r.deLp = r := by cases r <;> first | rfl | cases h1
    rw [← this]; exact h.2
  · rw [← deLp_same h.1]; exact h.2
  · exact shV_need h

theorem shapes_same {mt : Nat} : ∀ {ts : List TypeId} {i : Nat} {vs : List V} {K : List V → Prop}, vs.length = i + ts.length → shapes P mt ts i vs K → K (vs.drop i)
  | [], i, vs, K, hl, h => by
    have : vs.drop i = [] := List.drop_eq_nil_of_le (by simp at hl; omega)
    rw [this]; exact h
  | t :: ts, i, vs, K, hl, h => by
    have h1 := shape1_same (K := fun v => shapes P mt ts (i + 1) vs fun l => K (v :: l)) h
    have h2 := shapes_same (K := fun l => K (vs.getD i .undef :: l)) (by simp at hl; omega) h1
    have hi : i < vs.length := by simp at hl; omega
    rw [List.drop_eq_getElem_cons hi]
    simpa [List.getD, List.getElem?_eq_getElem hi] using h2

theorem shape_same {mt : Nat} {t : TypeId} {r : V} {K : V → Prop} (h : shapeW P mt t r K) : K r := by
  unfold shapeW at h
  split at h
  · rename_i ts _
    obtain ⟨h1, h2⟩ := h
    cases r <;> try cases h1
    rename_i vs
    have hl : vs.length = 0 + ts.toList.length := by rw [Nat.zero_add]; exact Nat.eq_of_beq_eq_true h1
    have := shapes_same (P := P) (K := fun vs => K (.tup vs)) hl h2
    simpa using this
  · exact shape1_same h

def FW (ro : Option Nat) : Fence := { Fence.wide with round := ro }
theorem FW.deep {ro : Option Nat} {n : Nat} : (FW ro).depth.isSome = true → 1 ≤ n := fun h => by cases h

theorem wp_value {ro : Option Nat} {o : Oper} (hd : ∀ c, o.op ≠ .defer c) {next : Act → World → Prop} {Q : Exit → Act → World → Prop} {x : Value} {w' : World} (hr : (execOp a.eval o).run P w = .ok (.value x) w') (h : next (a.put o.dst x) w') : o.wpIn (FW ro) 0 P a w next Q := by
  refine ⟨fun _ _ => trivial, ?_⟩
  rw [Oper.semAt_eq _ _ _ hd, hr]; exact h

theorem wp_skip' {ro : Option Nat} {o : Oper} (hd : ∀ c, o.op ≠ .defer c) {next : Act → World → Prop} {Q : Exit → Act → World → Prop} {w' : World} (hr : (execOp a.eval o).run P w = .ok .skip w') (h : next (a.put o.dst Go.undef) w') : o.wpIn (FW ro) 0 P a w next Q := by
  refine ⟨fun _ _ => trivial, ?_⟩
  rw [Oper.semAt_eq _ _ _ hd, hr]; exact h

theorem run_box {t : TypeId} {x : Value} : (Instr.box t x).run P w = .ok (.pointer (some ⟨w.heap.size, 0, none⟩)) (w.alloc (.cells x.cells t)) := by
  simp [Instr.box, newVar, alloc_run]

theorem run_alloc' {t : TypeId} {z : Value} (hz : (zeroValue t).run P w = .ok z w) : (Instr.alloc t true (.tuple #[])).run P w = .ok (.pointer (some ⟨w.heap.size, 0, none⟩)) (w.alloc (.cells z.cells t)) := by
  simp [Instr.alloc, hz, newVar, alloc_run]

theorem callFunc_enters {k : FuncId} (he : enters P k = true) (xs : Array Value) : (callFunc k xs).run P w = .ok (.enter k xs) w := by
  unfold enters at he
  split at he
  · rename_i fn hf
    simp only [Bool.and_eq_true] at he
    have hn : (fn.name == "runtime.NumGoroutine") = false := by simpa using he.2
    have hb : fn.body.isNone = false := by cases hb : fn.body <;> simp_all
    simp only [callFunc, Sem.run_bind, run_program, Result.andThen_ok, hf, hn, hb, Bool.false_eq_true, if_false]
    rfl
  · cases he

theorem storeW_tm {t : TypeId} {u v : V} {K : Fr → Heap → Prop} (hK : storeW P t u v fr h K) : storeW P t u v fr h (fun fr' h' => K fr' h' ∧ fr'.tm = fr.tm) := by
  revert hK
  unfold storeW
  cases okT P t <;> cases P.cellsOf t <;> simp only <;> try exact id
  rename_i n
  cases cellsQ (n + 1) v with
  | none => exact id
  | some p =>
    obtain ⟨new, c⟩ := p
    cases u <;> simp only <;> first | exact id | exact fun h => ⟨h.1, h.2.1, h.2.2, trivial⟩

theorem srcH_plain {t2 : TypeId} {size : Nat} {v : V} {r : List (List V) × Prop} (h1 : srcH P h t2 size v = some r) : v.plain = true := by
  unfold srcH at h1
  split at h1
  · rfl
  · split at h1
    · rename_i hm
      unfold srcQ at hm
      split at hm <;> first | rfl | cases hm
    · cases h1

theorem appendX_plain {mt : Nat} {t t2 : TypeId} {u v : V} {K : V → Heap → Prop} (hK : appendX P mt t t2 u v h K) : u.plain = true ∧ v.plain = true := by
  unfold appendX at hK
  split at hK
  · unfold appendW at hK
    split at hK <;> try exact hK.elim
    split at hK <;> try exact hK.elim
    split at hK <;> try exact hK.elim
    rename_i hm
    refine ⟨rfl, ?_⟩
    unfold srcQ at hm
    split at hm <;> first | rfl | cases hm
  · unfold appendM at hK
    split at hK <;> try exact hK.elim
    split at hK <;> try exact hK.elim
    split at hK <;> try exact hK.elim
    rename_i hm
    refine ⟨rfl, ?_⟩
    unfold srcQ at hm
    split at hm <;> first | rfl | cases hm
  · unfold appendD at hK
    split at hK <;> try exact hK.elim
    split at hK <;> try exact hK.elim
    split at hK <;> try exact hK.elim
    rename_i hm
    refine ⟨?_, srcH_plain hm⟩
    have hK := hK.2
    split at hK <;> first | rfl | exact hK.elim

theorem appendX_sound {mt : Nat} (H : HR S w h) {t t2 : TypeId} {u v : V} {x y : Value} (more : List TypeId) (ty : TypeId) (hu : Rel S w u x) (hv : Rel S w v y) {K : V → Heap → Prop} (hK : appendX P mt t t2 u v h K) :
    Eff h S w K ((Builtin.append_ (t :: t2 :: more).toArray ty #[x, y]).run P w) := by
  unfold appendX at hK
  split at hK
  · exact append_sound H more ty hu hv hK
  · exact appendM_sound H more ty hu hv hK
  · exact appendD_sound H more ty hu hv hK

theorem copyW_plain {t t2 : TypeId} {u v : V} {K : V → Heap → Prop} (hK : copyW P t t2 u v h K) : u.plain = true ∧ v.plain = true := by
  unfold copyW at hK
  split at hK <;> try exact hK.elim
  split at hK <;> try exact hK.elim
  split at hK
  · rename_i hm
    exact ⟨rfl, srcH_plain hm⟩
  · rename_i hm
    exact ⟨rfl, srcH_plain hm⟩
  · exact hK.elim

theorem lenM_sound (H : HR S w h) {t : TypeId} {u : V} {x : Value} (more : List TypeId) (ty : TypeId) (hu : TmRel S w lm u x) {K : V → Heap → Prop} (hK : lenMW P t u h K) :
    Eff h S w K ((Builtin.len_ (t :: more).toArray ty #[x]).run P w) := by
  unfold lenMW at hK
  split at hK
  case h_2 => exact hK.elim
  rename_i kt e es ht hm
  cases u <;> simp only [mapAt] at hm <;> try cases hm
  rename_i r
  cases (show Rel S w (.map r) x from hu)
  cases r with
  | none =>
    cases hm
    exact ⟨_, .int .i64 0, w, h, S, by simp [Builtin.len_, run_underlying' ht, goInt], hK, H, Rel.int _ _, Le.refl _ _ _ _⟩
  | some r =>
    simp only at hm
    split at hm
    · rename_i es' hh
      cases hm
      obtain ⟨_, o, ho, ents, clock, rfl, hs, hr⟩ := H.obs r _ hh
      refine ⟨_, .int .i64 es.length, w, h, S, ?_, hK, H, Rel.int _ _, Le.refl _ _ _ _⟩
      simp [Builtin.len_, run_underlying' ht, goInt, MapKept.run_getObj_map ho, hs]
    · cases hm

theorem clearW_plain {t : TypeId} {u : V} {K : V → Heap → Prop} (hK : clearW P t u h K) : u.plain = true := by
  unfold clearW at hK
  split at hK <;> try exact hK.elim
  split at hK <;> try exact hK.elim
  split at hK <;> first | rfl | exact hK.elim

theorem makeSliceW_plain {t : TypeId} {u v : V} {K : V → Heap → Prop} (hK : makeSliceW P t u v h K) : u.plain = true ∧ v.plain = true := by
  unfold makeSliceW at hK
  split at hK <;> try exact hK.elim
  split at hK <;> try exact hK.elim
  split at hK <;> first | exact ⟨rfl, rfl⟩ | exact hK.elim

theorem mapUpdateW_plain {t : TypeId} {u k v : V} {K : Heap → Prop} (hK : mapUpdateW P t u k v h K) : u.plain = true := by
  unfold mapUpdateW at hK
  split at hK <;> first | rfl | exact hK.elim

theorem typed_rel {ρ : Operand → V} (t : TypeId) {x : Operand} (hx : TmRel S w lm (ρ x) (a.eval x)) : TmRel S w lm (typed P ρ t x) (a.eval x) := by
  unfold typed
  split
  · split
    · exact Rel.slnil _ _ (by simp)
    · exact Rel.undef _
  · exact hx

theorem argsV_rel {ρ : Operand → V} : ∀ (ts : List TypeId) (l : List Operand), (∀ x ∈ l, TmRel S w lm (ρ x) (a.eval x)) →
    (argsV P ρ ts l).length = l.length ∧ ∀ (i : Nat) (v : V) (x : Value), (argsV P ρ ts l)[i]? = some v → (l.map a.eval)[i]? = some x → TmRel S w lm v x
  | ts, [], _ => ⟨by cases ts <;> rfl, fun i v x h => by cases ts <;> simp [argsV] at h⟩
  | [], x :: l, h => by
    obtain ⟨h1, h2⟩ := argsV_rel [] l fun y hy => h y (by simp [hy])
    refine ⟨by simp [argsV, h1], fun i v y hv hy => ?_⟩
    cases i with
    | zero => simp [argsV] at hv hy; subst hv; subst hy; exact h x (by simp)
    | succ i => simp [argsV] at hv; exact h2 i v y hv (by simpa using hy)
  | t :: ts, x :: l, h => by
    obtain ⟨h1, h2⟩ := argsV_rel ts l fun y hy => h y (by simp [hy])
    refine ⟨by simp [argsV, h1], fun i v y hv hy => ?_⟩
    cases i with
    | zero => simp [argsV] at hv hy; subst hv; subst hy; exact typed_rel t (h x (by simp))
    | succ i => simp [argsV] at hv; exact h2 i v y hv (by simpa using hy)

theorem wp_eff {ro : Option Nat} {o : Oper} (hd : ∀ c, o.op ≠ .defer c) {next : Act → World → Prop} {Q : Exit → Act → World → Prop} {K : V → Heap → Prop} {r : Result Value} (hr : (execOp a.eval o).run P w = r.andThen fun x w' => .ok (.value x) w')
    (E : Eff h S w K r) (hn : ∀ v z w' h' S', K v h' → HR S' w' h' → Rel S' w' v z → Le (fun _ => False) h S w h' S' w' → next (a.put o.dst z) w') : o.wpIn (FW ro) 0 P a w next Q := by
  obtain ⟨v, z, w', h', S', e, hk, H', hrel, L'⟩ := E
  exact wp_value hd (by rw [hr, e]; rfl) (hn v z w' h' S' hk H' hrel L')

def Next (B : Nat) (h : Heap) (S : Sim) (w : World) (lm : Nat → Option Nat) (a : Act) (K : V → Fr → Heap → Prop) (fr : Fr) (dst : Option Tmp) (next : Act → World → Prop) : Prop :=
  ∀ S' w' h' fr' v x, K v fr' h' → HR S' w' h' → FR B S' w' h' fr' lm a → Rel S' w' v x → Le (fun rb => B ≤ rb) h S w h' S' w' → fr'.tm = fr.tm → next (a.put dst x) w'

theorem effW_sound {ro : Option Nat} {mt : Nat} (H : HR S w h) (F : FR B S w h fr lm a) (o : Oper) (ρ : Operand → V) (hρ : ∀ x ∈ o.op.operands.toList, TmRel S w lm (ρ x) (a.eval x)) {K : V → Fr → Heap → Prop}
    (hK : effW P mt o.op o.type ρ fr h K) (next : Act → World → Prop) (Q : Exit → Act → World → Prop) (hn : Next B h S w lm a K fr o.dst next) : o.wpIn (FW ro) 0 P a w next Q := by
  obtain ⟨dst, op, type, pos, after, guard⟩ := o
  simp only at hρ hK hn
  unfold effW at hK
  split at hK
  · -- alloc
    rename_i t
    split at hK
    · rename_i cs hz
      obtain ⟨z, hzr, hr, h1, _, _⟩ := run_zeroValue (w := w) S hz
      obtain ⟨g1, g2⟩ := heap_new H (cs := cs) (c := z.cells) t h1 hr
      exact wp_value (fun c e => by cases e) (by simp [execOp, run_alloc' hzr]) (hn _ _ _ fr _ _ (hK _ H.none) g1 (F.le H g2) (Rel.ptr _ _) (g2.weaken _) rfl)
    · exact hK.elim
  · -- box
    rename_i t x
    split at hK
    · rename_i cs c ht hq
      obtain ⟨hc, hK⟩ := hK
      obtain ⟨c1, c2, c3, c4⟩ := cells_rel (hρ x (by simp [Op.operands])) hq hc
      obtain ⟨g1, g2⟩ := heap_new H (cs := cs) (c := (a.eval x).cells) t c4 c3
      exact wp_value (fun c e => by cases e) (by simp [execOp, run_box]) (hn _ _ _ fr _ _ (hK _ H.none) g1 (F.le H g2) (Rel.ptr _ _) (g2.weaken _) rfl)
    · exact hK.elim
  · -- store
    rename_i t x y
    obtain ⟨w', hr, hnext⟩ := store_sound (P := P) H F t (hρ x (by simp [Op.operands])) (typed_rel t (hρ y (by simp [Op.operands]))) (storeW_tm hK)
      (fun w' => next (a.put dst Go.undef) w') (fun w' h' fr' hk H' F' L' => hn S w' h' fr' .undef Go.undef hk.1 H' F' (Rel.undef _) L' hk.2)
    exact wp_skip' (fun c e => by cases e) (by simp [execOp, hr]) hnext
  · -- a slice that is written out
    rename_i t n ps
    have hE := newSlice_sound (P := P) (S := S) (w := w) (lm := lm) H t n (ps.toList.map fun e => (e.1, ρ e.2)) (ps.toList.map fun e => (e.1, a.eval e.2)) (by simp)
      (parts_rel ρ a.eval ps.toList (fun x hx => hρ x (by simpa [Op.operands] using hx))) (K := fun v h' => K v fr h') (by
        split at hK
        · rename_i hq
          rw [hq]
          exact hK
        · exact hK.elim)
    have e : (ps.toList.map fun e => (e.1, a.eval e.2)).toArray = ps.map fun (i, x) => (i, a.eval x) := by apply Array.ext'; simp
    rw [e] at hE
    exact wp_eff (fun c e => by cases e) (by simp [execOp]) hE fun v z w' h' S' hk H' hrel L' => hn S' w' h' fr v z hk H' (F.le H L') hrel (L'.weaken _) rfl
  · -- a slice of zeros
    rename_i t n c
    obtain ⟨p1, p2⟩ := makeSliceW_plain hK
    exact wp_eff (fun c e => by cases e) (by simp [execOp]) (makeSlice_sound (P := P) H ((hρ n (by simp [Op.operands])).rel p1) ((hρ c (by simp [Op.operands])).rel p2) hK) fun v z w' h' S' hk H' hrel L' => hn S' w' h' fr v z hk H' (F.le H L') hrel (L'.weaken _) rfl
  · -- a map
    rename_i t
    exact wp_eff (fun c e => by cases e) (by simp [execOp]) (newMap_sound (P := P) H t (K := fun v h' => K v fr h') hK) fun v z w' h' S' hk H' hrel L' => hn S' w' h' fr v z hk H' (F.le H L') hrel (L'.weaken _) rfl
  · -- an entry
    rename_i t m k v
    obtain ⟨w', h', hr, hk, H', L'⟩ := mapUpdate_sound (P := P) H t ((hρ m (by simp [Op.operands])).rel (mapUpdateW_plain hK)) (hρ k (by simp [Op.operands])) (hρ v (by simp [Op.operands])) hK
    exact wp_skip' (fun c e => by cases e) (by simp [execOp, hr]) (hn S w' h' fr .undef Go.undef hk H' (F.le H L') (Rel.undef _) (L'.weaken _) rfl)
  · -- is it nil?
    rename_i op t x y
    have hx := hρ x (by simp [Op.operands])
    split at hK
    case h_2 => exact hK.elim
    rename_i e ht
    have fin : ∀ (no : Bool) (b0 : Option Addr) (n c : Nat), op = eqOp no → a.eval x = .slice b0 n c → K (.bool (neg no b0.isNone)) fr h → Oper.wpIn (FW ro) 0 P { dst, op := .binOp op t x (.const (.slice none 0 0)) y, type, pos, after, guard } a w next Q := by
      intro no b0 n c e1 e2 hk
      subst e1
      have := slNil_sound (P := P) (w := w) ht no b0 n c x
      refine wp_value (x := .bool (neg no b0.isNone)) (fun c e => by cases e) ?_ (hn S w h fr _ _ hk H F (.bool _) (.refl _ _ _ _) rfl)
      have hy : a.eval (.const (.slice none 0 0)) = .slice none 0 0 := rfl
      simp only [execOp]
      rw [e2, hy]
      simp only [Sem.run_bind] at this ⊢
      rw [this]
      rfl
    have ptr : ∀ (l : List (List V)) (es : Nat) (g : G), Rel S w (.sl es l g) (a.eval x) → ∃ b0 n c, a.eval x = .slice b0 n c ∧ (l ≠ [] → b0.isNone = false) := by
      intro l es g hr
      rcases slice_parts hr with ⟨rfl, ⟨_, e⟩, _⟩ | ⟨rb, o, cap, xs, e, _⟩
      · exact ⟨_, _, _, e, fun h => (h rfl).elim⟩
      · exact ⟨_, _, _, e, fun _ => rfl⟩
    have ref : ∀ (es l o n c : Nat), Rel S w (.sref es l o n c) (a.eval x) → ∃ b0, a.eval x = .slice b0 n c ∧ (n ≠ 0 → b0.isNone = false) := by
      intro es l o n c hr
      generalize a.eval x = v at hr
      cases hr with
      | sref => exact ⟨_, rfl, fun _ => rfl⟩
      | srefnil => exact ⟨_, rfl, fun h => (h rfl).elim⟩
    split at hK
    · rename_i es l g hv
      rw [hv] at hx
      obtain ⟨b0, n, c, e, hb⟩ := ptr l es g hx
      exact fin false b0 n c rfl e (hK _ hb)
    · rename_i es l g hv
      rw [hv] at hx
      obtain ⟨b0, n, c, e, hb⟩ := ptr l es g hx
      exact fin true b0 n c rfl e (hK _ hb)
    · rename_i es l o n c hv
      rw [hv] at hx
      obtain ⟨b0, e, hb⟩ := ref es l o n c hx
      exact fin false b0 n c rfl e (hK _ hb)
    · rename_i es l o n c hv
      rw [hv] at hx
      obtain ⟨b0, e, hb⟩ := ref es l o n c hx
      exact fin true b0 n c rfl e (hK _ hb)
    · exact hK.elim
  · -- bytes of a text
    rename_i s d x
    have hx := hρ x (by simp [Op.operands])
    split at hK
    case h_2 => exact hK.elim
    rename_i e es l o n c hsd hs hv
    rw [beq_iff_eq] at hsd
    subst hsd
    split at hK
    case h_2 => exact hK.elim
    rename_i hz
    obtain ⟨hn0, hl, hK⟩ := hK
    rw [hv] at hx
    exact wp_eff (fun c e => by cases e) (by simp [execOp]) (freeze_sound (P := P) H hs (zeroIsByte_some hz) hn0 hl hx (K := fun v h' => K v fr h') hK) fun v z w' h' S' hk H' hrel L' => hn S' w' h' fr v z hk H' (F.le H L') hrel (L'.weaken _) rfl
  · -- call
    rename_i c
    obtain ⟨callee, args, ts⟩ := c
    have hargs : ∀ x ∈ args.toList, TmRel S w lm (ρ x) (a.eval x) := fun x hx => hρ x (by simp [Op.operands, Call.operands]; exact .inr (by simpa using hx))
    cases callee with
    | value f =>
      simp only at hK
      split at hK
      · rename_i k first caps hf
        split at hK
        · rename_i hp
          have hfr := hρ f (by simp [Op.operands, Call.operands])
          rw [hf] at hfr
          have hfr' : Rel S w (.fn (.func k) first caps) (a.eval f) := hfr
          generalize hev : a.eval f = fv at hfr'
          cases hfr' with
          | fn _ _ _ xs ys h1 h2 hx hy =>
            have hargl : RelL S w (argsV P ρ ts.toList args.toList) (args.toList.map a.eval) := relL_of_plain (lm := lm) (by simp [(argsV_rel (P := P) ts.toList args.toList hargs).1]) hp (argsV_rel (P := P) ts.toList args.toList hargs).2
            have hall : RelL S w (first ++ argsV P ρ ts.toList args.toList ++ caps) (xs ++ args.toList.map a.eval ++ ys) := RelL.append (RelL.append (show RelL S w first xs from ⟨h1, hx⟩) hargl) ⟨h2, hy⟩
            have harr : (xs.toArray ++ args.map a.eval) ++ ys.toArray = (xs ++ args.toList.map a.eval ++ ys).toArray := by apply Array.ext'; simp
            have hrun : (execOp a.eval { dst, op := .call { callee := .value f, args, argTypes := ts }, type, pos, after, guard }).run P w = (callFunc k (xs ++ args.toList.map a.eval ++ ys).toArray).run P w := by
              rw [← harr]
              simp [execOp, resolve, hev, Deferred.ofValue, invoke]
            unfold AnyW at hK
            split at hK
            · rename_i he
              refine ⟨fun _ _ => trivial, ?_⟩
              rw [Oper.semAt_eq _ _ _ (fun c e => by cases e), hrun, callFunc_enters he]
              refine ⟨FW.deep, callsIn_wide.2 ((hK S w _ H hall).mono ?_)⟩
              rintro e w' ⟨r, x, h', S', rfl, hk, H', hr, L'⟩
              exact hn S' w' h' fr r x (shape_same hk) H' (F.le H L') hr (L'.weaken _) rfl
            · obtain ⟨r, x, w', h', S', hr, hk, H', hrel, L'⟩ := hK S w _ H hall
              exact wp_value (fun c e => by cases e) (by rw [hrun]; exact hr) (hn S' w' h' fr r x (shape_same hk) H' (F.le H L') hrel (L'.weaken _) rfl)
        · exact hK.elim
      · rename_i l hf
        split at hK
        · rename_i hp
          have hfr := hρ f (by simp [Op.operands, Call.operands])
          rw [hf] at hfr
          have hfr' : Rel S w (.fn (.yield l) [] []) (a.eval f) := hfr
          generalize hev : a.eval f = fv at hfr'
          cases hfr' with
          | fn _ _ _ xs ys h1 h2 hx hy =>
            obtain rfl : xs = [] := List.length_eq_zero_iff.1 h1
            obtain rfl : ys = [] := List.length_eq_zero_iff.1 h2
            have hargl : RelL S w (argsV P ρ ts.toList args.toList) (args.toList.map a.eval) := relL_of_plain (lm := lm) (by simp [(argsV_rel (P := P) ts.toList args.toList hargs).1]) hp (argsV_rel (P := P) ts.toList args.toList hargs).2
            obtain ⟨f', tmps, asg, body, hy1, hy2⟩ := hK S w _ H hargl
            have harr : (args.toList.map a.eval).toArray = args.map a.eval := by apply Array.ext'; simp
            rw [harr] at hy1
            have hrun : (execOp a.eval { dst, op := .call { callee := .value f, args, argTypes := ts }, type, pos, after, guard }).run P w = .ok (.round l f' tmps asg body) w := by
              have : (execOp a.eval { dst, op := .call { callee := .value f, args, argTypes := ts }, type, pos, after, guard }).run P w = (Instr.yield l (args.map a.eval)).run P w := by
                simp [execOp, resolve, hev, Deferred.ofValue, invoke]
              rw [this, hy1]
            refine ⟨fun _ _ => trivial, ?_⟩
            rw [Oper.semAt_eq _ _ _ (fun c e => by cases e), hrun]
            refine ⟨FW.deep, hy2.mono ?_⟩
            rintro e w' ⟨r, x, h', S', rfl, hk, H', hr, L'⟩
            exact hn S' w' h' fr r x (shape_same hk) H' (F.le H L') hr (L'.weaken _) rfl
        · exact hK.elim
      · exact hK.elim
    | invoke x n => exact hK.elim
    | builtin b =>
      have hargs' : ∀ x ∈ args.toList, TmRel S w lm (ρ x) (a.eval x) := hargs
      cases b <;> try exact hK.elim
      case append =>
        simp only at hK
        split at hK
        · rename_i t t2 more x y ht hx
          have e1 : args = #[x, y] := by apply Array.ext'; simpa using hx
          have e2 : ts = (t :: t2 :: more).toArray := by apply Array.ext'; simpa using ht
          subst e1
          subst e2
          have rx := typed_rel (P := P) t (hargs x (by simp))
          have ry := typed_rel (P := P) t2 (hargs y (by simp))
          obtain ⟨p1, p2⟩ := appendX_plain hK
          obtain ⟨v, z, w', h', S', hr, hk, H', hrel, L'⟩ := appendX_sound H more type (rx.rel p1) (ry.rel p2) hK
          exact wp_value (fun c e => by cases e) (by simpa [execOp, resolve, invoke, builtin] using congrArg (fun r => r.andThen fun a w' => Result.ok (Next.value a) w') hr) (hn S' w' h' fr v z hk H' (F.le H L') hrel (L'.weaken _) rfl)
        · exact hK.elim
      case copy =>
        simp only at hK
        split at hK
        · rename_i t t2 more x y ht hx
          have e1 : args = #[x, y] := by apply Array.ext'; simpa using hx
          have e2 : ts = (t :: t2 :: more).toArray := by apply Array.ext'; simpa using ht
          subst e1
          subst e2
          obtain ⟨p1, p2⟩ := copyW_plain hK
          obtain ⟨v, z, w', h', S', hr, hk, H', hrel, L'⟩ := copy_sound H more type ((typed_rel (P := P) t (hargs x (by simp))).rel p1) ((typed_rel (P := P) t2 (hargs y (by simp))).rel p2) hK
          exact wp_value (fun c e => by cases e) (by simpa [execOp, resolve, invoke, builtin] using congrArg (fun r => r.andThen fun a w' => Result.ok (Next.value a) w') hr) (hn S' w' h' fr v z hk H' (F.le H L') hrel (L'.weaken _) rfl)
        · exact hK.elim
      case len =>
        simp only at hK
        split at hK
        · rename_i t more x ht hx
          have e1 : args = #[x] := by apply Array.ext'; simpa using hx
          have e2 : ts = (t :: more).toArray := by apply Array.ext'; simpa using ht
          subst e1
          subst e2
          obtain ⟨v, z, w', h', S', hr, hk, H', hrel, L'⟩ := lenM_sound H more type (hargs x (by simp)) hK
          exact wp_value (fun c e => by cases e) (by simpa [execOp, resolve, invoke, builtin] using congrArg (fun r => r.andThen fun a w' => Result.ok (Next.value a) w') hr) (hn S' w' h' fr v z hk H' (F.le H L') hrel (L'.weaken _) rfl)
        · exact hK.elim
      case clear =>
        simp only at hK
        split at hK
        · rename_i t more x ht hx
          have e1 : args = #[x] := by apply Array.ext'; simpa using hx
          have e2 : ts = (t :: more).toArray := by apply Array.ext'; simpa using ht
          subst e1
          subst e2
          obtain ⟨v, z, w', h', S', hr, hk, H', hrel, L'⟩ := clear_sound H more type ((typed_rel (P := P) t (hargs x (by simp))).rel (clearW_plain hK)) hK
          exact wp_value (fun c e => by cases e) (by simpa [execOp, resolve, invoke, builtin] using congrArg (fun r => r.andThen fun a w' => Result.ok (Next.value a) w') hr) (hn S' w' h' fr v z hk H' (F.le H L') hrel (L'.weaken _) rfl)
        · exact hK.elim
  · exact hK.elim
end
end Jb
end

section
/- Operations under guards, one behind the other. -/
namespace Jb
open Go Go.RowKit

section
variable {P : Program} {S : Sim} {w : World} {h : Heap} {lm : Nat → Option Nat} {B : Nat} {fr : Fr} {a : Act} {esc : List Nat}

theorem FR.put (F : FR B S w h fr lm a) (dst : Option Tmp) {v : V} {x : Value} (hv : TmRel S w lm v x) : FR B S w h (fr.put dst v) lm (a.put dst x) := by
  cases dst with
  | none => exact F
  | some d =>
    exact { size := by simp [Fr.put, Act.put, F.size]
            tm := fun i u hu => by
              simp only [Fr.put] at hu
              simp only [Act.put]
              rw [List.getElem?_set] at hu
              by_cases hi : d = i
              · subst hi
                rw [if_pos rfl] at hu
                split at hu
                · rename_i hlt
                  cases hu
                  have : d < a.tmps.size := by rw [F.size]; exact hlt
                  simpa [Array.getD, this] using hv
                · cases hu
              · rw [if_neg hi] at hu
                have := F.tm i u hu
                simpa [Array.getElem?_setIfInBounds, hi] using this
            vars := F.vars, inj := F.inj, lb := F.lb, lo := F.lo, nd := F.nd, dfs := F.dfs }

theorem FR.below {w' : World} (H : HR S w h) (F : FR B S w h fr lm a) (b : Below w.heap.size w w') : FR B S w' h fr lm a := F.le H (Le.below _ H b)

theorem getD_bool {x : Value} {t : Bool} {d : Nat} (h : x = a.tmps.getD d Go.undef) (hx : x = .bool t) : a.tmps[d]? = some (.bool t) := by
  subst h
  rcases Nat.lt_or_ge d a.tmps.size with hd | hd
  · simp [Array.getD, hd] at hx
    simp [hd, hx]
  · simp [Array.getD, Nat.not_lt.2 hd, Go.undef] at hx

theorem guard_sound (F : FR B S w h fr lm a) (ops : List Oper) (o : Oper) {g : Option Bool} (hg : guardOf ops fr o = some g) : Region.wanted o (yielded ops.toArray a.tmps) = (match g with | none => true | some b => b) := by
  unfold guardOf at hg
  unfold Region.wanted
  split at hg
  · cases hg; rename_i hn; rw [hn]
  · rename_i j want hj
    rw [hj]
    simp only
    split at hg
    · rename_i p hp
      split at hg
      · rename_i d hd
        have hy : yielded ops.toArray a.tmps j = (match a.tmps[d]? with | some (.bool b) => some b | _ => none) := by
          simp only [yielded]
          have : (ops.toArray[j]?).bind (·.dst) = some d := by simp [hp, hd]
          rw [this]
          rfl
        have hev := F.ev (.tmp d)
        simp only [Fr.ev, Act.eval] at hev
        split at hg
        · rename_i t ht
          cases hg
          rw [ht] at hev
          cases hx : a.tmps.getD d Go.undef <;> rw [hx] at hev <;> cases (show Rel S w (.bool t) _ from hev)
          have := getD_bool (a := a) rfl hx
          rw [hy, this]
          cases t <;> cases want <;> rfl
        · rename_i b t' ht
          rw [ht] at hev
          obtain ⟨h1, h2⟩ := hev
          have hno : b = false → (match a.tmps[d]? with | some (.bool b) => some b | _ => none) = none := by
            intro hb
            have h2 := h2 hb
            cases hd' : a.tmps[d]? with
            | none => rfl
            | some x =>
              have : a.tmps.getD d Go.undef = x := by
                obtain ⟨hlt, hx⟩ := Array.getElem?_eq_some_iff.1 hd'
                simp [Array.getD, hlt, hx]
              rw [this] at h2
              subst h2
              rfl
          split at hg
          case h_2 => cases hg; rw [hy, hno rfl]; simp
          case h_3 => cases hg
          rename_i t
          cases hg
          cases b with
          | true =>
            have h1 := h1 rfl
            cases hx : a.tmps.getD d Go.undef <;> rw [hx] at h1 <;> cases (show Rel S w (.bool t) _ from h1)
            have := getD_bool (a := a) rfl hx
            rw [hy, this]
            cases t <;> cases want <;> rfl
          | false =>
            rw [hy, hno rfl]
            simp
        · cases hg
      · cases hg
    · cases hg

theorem exec_pick (dst : Option Tmp) (c x y : Operand) (type : TypeId) (pos : String) (after : Array Edge) (guard : Option (Nat × Bool)) :
    (execOp a.eval { dst, op := .pick c x y, type, pos, after, guard }).run P w = (do pure (Go.Next.value (← (do pure (if ← Go.asBool (a.eval c) then a.eval x else a.eval y) : Sem Value))) : Sem Go.Next).run P w := by
  simp only [execOp, Sem.run_bind, Sem.run_pure]
  cases (Go.asBool (a.eval c)).run P w <;> rfl

theorem quiet_sound (esc : List Nat) (H : HR S w h) (F : FR B S w h fr lm a) (o : Oper) (hneed : ∀ v ∈ quietOps o fr, ∀ b u, v = .opt b u → b = true) :
    SndN S w lm ((execOp a.eval o).run P w) (quietQ P esc fr h o) := by
  have hops : (∀ c x y, o.op ≠ .pick c x y) → ∀ x ∈ o.op.operands.toList, TmRel S w lm ((fr.ev x).strip) (a.eval x) := by
    intro hp x hx
    refine strip_rel (F.ev x) (hneed _ ?_)
    unfold quietOps
    split
    · rename_i c x y e; exact (hp _ _ _ e).elim
    · exact List.mem_map.2 ⟨x, hx, rfl⟩
  by_cases hp : ∃ c x y, o.op = .pick c x y
  · obtain ⟨c, x, y, e⟩ := hp
    obtain ⟨dst, op, type, pos, after, guard⟩ := o
    simp only at e
    subst e
    rw [exec_pick]
    refine Snd.next ?_
    exact pick_sound (strip_rel (F.ev c) (hneed _ (by simp [quietOps]))) (F.ev x) (F.ev y)
  · have hp' : ∀ c x y, o.op ≠ .pick c x y := fun c x y e => hp ⟨c, x, y, e⟩
    have := qop_sound (P := P) (dstMode o esc) H F o (fun x => (fr.ev x).strip) (hops hp')
    unfold quietQ
    split
    · rename_i c x y e; exact (hp' _ _ _ e).elim
    · rename_i e
      obtain ⟨dst, op, type, pos, after, guard⟩ := o
      simp only at e
      subst e
      simp only [nilSlQ]
      split
      · exact ⟨.slice none 0 0, w, by simp [execOp, Act.eval], .refl _ _, Rel.slnil _ _ (fun s h => by cases h)⟩
      · exact True.intro
    · exact this

theorem quiet_clean (esc : List Nat) (o : Oper) (d : Nat) (hd : NoLp d fr) : Clean d (quietQ P esc fr h o) := by
  by_cases hp : ∃ c x y, o.op = .pick c x y
  · obtain ⟨c, x, y, e⟩ := hp
    unfold quietQ
    rw [e]
    simp only [pickQ]
    repeat' split
    all_goals first | trivial | exact fun f => f
  · have hp' : ∀ c x y, o.op ≠ .pick c x y := fun c x y e => hp ⟨c, x, y, e⟩
    unfold quietQ
    split
    · rename_i c x y e; exact (hp' _ _ _ e).elim
    · unfold nilSlQ
      split
      · exact fun f => f
      · trivial
    · exact qop_clean _ o _ d (fun x hx => men_strip (hd.ev x))

def Begins (esc : List Nat) (o : Oper) (d : Nat) : Prop := sortOf esc o = 1 ∧ o.dst = some d

def After (esc : List Nat) (B : Nat) (h : Heap) (S : Sim) (w : World) (fr : Fr) (o : Oper) (K : Fr → Heap → Prop) (next : Act → World → Prop) : Prop :=
  ∀ S' w' h' fr' lm' a', K fr' h' → HR S' w' h' → FR B S' w' h' fr' lm' a' → Le (fun rb => B ≤ rb) h S w h' S' w' → (∀ d, NoLp d fr → ¬ Begins esc o d → NoLp d fr') → next a' w'

theorem quiet_noDefer {esc : List Nat} {o : Oper} (hb : quietQ P esc fr h o ≠ .bad) : ∀ c, o.op ≠ .defer c := by
  intro c e
  apply hb
  unfold quietQ
  rw [e]
  rfl

theorem quiet_wp {ro : Option Nat} (H : HR S w h) (F : FR B S w h fr lm a) (ops : List Oper) (o : Oper) {g : Option Bool} (hg : guardOf ops fr o = some g) {K : Fr → Heap → Prop} (hK : quietW P esc g fr h o fun v => K (fr.put o.dst v) h)
    (next : Act → World → Prop) (Q : Exit → Act → World → Prop) (hn : After esc B h S w fr o K next) :
    if Region.wanted o (yielded ops.toArray a.tmps) then o.wpIn (FW ro) 0 P a w next Q else next (a.put o.dst Go.undef) w := by
  have hw := guard_sound F ops o hg
  unfold quietW at hK
  rw [optNeeds_iff] at hK
  obtain ⟨hneed, hK⟩ := hK
  have skip : ∀ v, (∀ d, NoLp d fr → ¬ men d v) → TmRel S w lm v Go.undef → K (fr.put o.dst v) h → next (a.put o.dst Go.undef) w := fun v hm hv hk =>
    hn S w h (fr.put o.dst v) lm _ hk H (F.put _ hv) (Le.refl _ _ _ _) (fun d hd _ => hd.put _ (hm d hd))
  have go : ∀ v v', YieldsN S w lm ((execOp a.eval o).run P w) v → (∀ x w', TmRel S w' lm v x → TmRel S w' lm v' x) → (∀ d, NoLp d fr → ¬ men d v') → K (fr.put o.dst v') h → quietQ P esc fr h o ≠ .bad → o.wpIn (FW ro) 0 P a w next Q := by
    rintro v v' ⟨x, w', hr, hb, hv⟩ hvv hm hk hbad
    exact wp_value (quiet_noDefer hbad) hr (hn S w' h (fr.put o.dst v') lm _ hk (H.below hb) ((F.below H hb).put _ (hvv _ _ hv)) (Le.below _ H hb) (fun d hd _ => hd.put _ (hm d hd)))
  cases g with
  | none =>
    have hneed' : ∀ v ∈ quietOps o fr, ∀ b u, v = .opt b u → b = true := hneed
    have hs := quiet_sound (P := P) esc H F o hneed'
    have hc := quiet_clean (P := P) (h := h) (fr := fr) esc o
    rw [hw]
    simp only [if_true]
    cases hq : quietQ P esc fr h o with
    | bad => rw [hq] at hK; exact hK.elim
    | ok v =>
      rw [hq] at hs hK hc
      exact go v v hs (fun _ _ h => h) hc hK (by rw [hq]; simp)
    | chk c v =>
      rw [hq] at hs hK hc
      exact go v v (hs hK.1) (fun _ _ h => h) hc hK.2 (by rw [hq]; simp)
  | some b =>
    rw [hw]
    simp only
    cases b with
    | true =>
      simp only [if_true]
      have hneed' : ∀ v ∈ quietOps o fr, ∀ b u, v = .opt b u → b = true := fun v hv b u e => hneed v hv b u e rfl
      have hs := quiet_sound (P := P) esc H F o hneed'
      have hc := quiet_clean (P := P) (h := h) (fr := fr) esc o
      cases hq : quietQ P esc fr h o with
      | bad => rw [hq] at hK; cases hK.1
      | ok v =>
        rw [hq] at hs hK hc
        exact go v (.opt true v) hs (fun _ _ h => ⟨fun _ => h, fun e => (by cases e)⟩) hc hK (by rw [hq]; simp)
      | chk c v =>
        rw [hq] at hs hK hc
        exact go v (.opt true v) (hs (hK.1 rfl)) (fun _ _ h => ⟨fun _ => h, fun e => (by cases e)⟩) hc hK.2 (by rw [hq]; simp)
    | false =>
      simp only [Bool.false_eq_true, if_false]
      cases hq : quietQ P esc fr h o with
      | bad => rw [hq] at hK; exact skip (.opt false .undef) (fun _ _ f => f) ⟨fun e => (by cases e), fun _ => rfl⟩ hK.2
      | ok v =>
        have hc := quiet_clean (P := P) (h := h) (fr := fr) esc o
        rw [hq] at hK hc
        exact skip (.opt false v) hc ⟨fun e => (by cases e), fun _ => rfl⟩ hK
      | chk c v =>
        have hc := quiet_clean (P := P) (h := h) (fr := fr) esc o
        rw [hq] at hK hc
        exact skip (.opt false v) hc ⟨fun e => (by cases e), fun _ => rfl⟩ hK.2
end
end Jb
end

section
/- Any operation in a frame; a region without a draw. -/
namespace Jb
open Go Go.RowKit

section
variable {P : Program} {S : Sim} {w : World} {h : Heap} {lm : Nat → Option Nat} {B : Nat} {fr : Fr} {a : Act} {esc : List Nat}

theorem begin_sound {ro : Option Nat} (H : HR S w h) (F : FR B S w h fr lm a) (hB : B ≤ w.heap.size) (o : Oper) {d : Nat} (hs : sortOf esc o = 1) (hd : o.dst = some d) (hm : NoLp d fr) {cs : List V} {c : Prop}
    (hneed : ∀ v ∈ o.op.operands.toList.map fr.ev, ∀ b u, v = .opt b u → b = true)
    (ho : ownVar P o.op (fun x => (fr.ev x).strip) = some (cs, c)) (hc : c) {K : Fr → Heap → Prop} (hK : K { tm := fr.tm.set d (.lp d 0), lc := lcSet d cs fr.lc } h)
    (next : Act → World → Prop) (Q : Exit → Act → World → Prop) (hn : After esc B h S w fr o K next) : o.wpIn (FW ro) 0 P a w next Q := by
  have hρ : ∀ x ∈ o.op.operands.toList, TmRel S w lm ((fr.ev x).strip) (a.eval x) := fun x hx =>
    strip_rel (F.ev x) (hneed _ (List.mem_map.2 ⟨x, hx, rfl⟩))
  have fin : ∀ (e : TypeId) (arr : Array Value), (∀ v ∈ arr.toList, v.oneCell' = true) → RelL S w cs arr.toList → (execOp a.eval o).run P w = .ok (.value (.pointer (some ⟨w.heap.size, 0, none⟩))) (w.alloc (.cells arr e)) → o.wpIn (FW ro) 0 P a w next Q := by
    intro e arr h1 hr hrun
    obtain ⟨g1, g2, g3⟩ := local_new H F hB e h1 hr hm
    refine wp_value (fun c e' => by rw [e'] at ho; cases ho) hrun ?_
    rw [hd]
    refine hn _ _ _ _ _ _ hK g1 g2 g3 (fun d' hn' hb => ?_)
    have hne : d ≠ d' := fun e => hb ⟨hs, by rw [hd, e]⟩
    exact NoLp.put (fr := { fr with lc := lcSet d cs fr.lc }) hn' (some d) (v := .lp d 0) hne
  obtain ⟨dst, op, type, pos, after, guard⟩ := o
  simp only at ho hρ
  unfold ownVar at ho
  split at ho
  · rename_i t
    split at ho
    · rename_i cs' hz
      cases ho
      obtain ⟨z, hzr, hr, h1, _, _⟩ := run_zeroValue (w := w) S hz
      exact fin t z.cells h1 hr (by simp [execOp, run_alloc' hzr])
    · cases ho
  · rename_i t x
    split at ho
    · obtain ⟨c1, c2, c3, c4⟩ := cells_rel (hρ x (by simp [Op.operands])) ho hc
      exact fin t _ c4 c3 (by simp [execOp, run_box])
    · cases ho
  · cases ho

theorem yes_rel {t : TypeId} {v : V} {x : Value} {S : Sim} {w : World} (h : TmRel S w lm v x) : TmRel S w lm (yesV P t true v) x := by
  unfold yesV
  split <;> first | exact h | exact ⟨fun _ => h, fun e => (by cases e)⟩
theorem yes_men {t : TypeId} {b : Bool} {v : V} {d : Nat} (h : ¬ men d v) : ¬ men d (yesV P t b v) := by
  unfold yesV
  split <;> exact h
theorem no_rel {t : TypeId} {S : Sim} {w : World} : TmRel S w lm (noV P t false) Go.undef := by
  unfold noV
  split <;> first | exact ⟨fun e => (by cases e), fun _ => rfl⟩ | exact Rel.undef _
theorem no_men {t : TypeId} {b : Bool} {d : Nat} : ¬ men d (noV P t b) := by
  unfold noV
  split <;> exact fun f => f

theorem effect_sound {ro : Option Nat} {mt : Nat} (H : HR S w h) (F : FR B S w h fr lm a) (o : Oper) {K : Fr → Heap → Prop} (m : V → V) (hm1 : ∀ S w v x, TmRel S w lm v x → TmRel S w lm (m v) x) (hm2 : ∀ d v, ¬ men d v → ¬ men d (m v))
    (hK : optNeeds none (o.op.operands.toList.map fr.ev) (effW P mt o.op o.type (fun x => (fr.ev x).strip) fr h fun v fr' h' => K (fr'.put o.dst (m v)) h'))
    (next : Act → World → Prop) (Q : Exit → Act → World → Prop) (hn : After esc B h S w fr o K next) : o.wpIn (FW ro) 0 P a w next Q := by
  rw [optNeeds_iff] at hK
  obtain ⟨hneed, hK⟩ := hK
  refine effW_sound H F o _ (fun x hx => strip_rel (F.ev x) (hneed _ (List.mem_map.2 ⟨x, hx, rfl⟩))) hK next Q ?_
  intro S' w' h' fr' v x hk H' F' hr L' ht
  refine hn S' w' h' _ lm _ hk H' (F'.put _ (hm1 _ _ _ _ (.of_rel hr))) L' (fun d hd _ => ?_)
  refine NoLp.put (fun i v hv => ?_) _ (hm2 _ _ (hr.not_men d))
  rw [ht] at hv
  exact hd i v hv

theorem opW_sound {ro : Option Nat} (H : HR S w h) (F : FR B S w h fr lm a) (hB : B ≤ w.heap.size) (ops : List Oper) (o : Oper) (hm : ∀ d, Begins esc o d → NoLp d fr) {K : Fr → Heap → Prop} (hK : opW P esc ops o fr h K)
    (next : Act → World → Prop) (Q : Exit → Act → World → Prop) (hn : After esc B h S w fr o K next) :
    if Region.wanted o (yielded ops.toArray a.tmps) then o.wpIn (FW ro) 0 P a w next Q else next (a.put o.dst Go.undef) w := by
  unfold opW at hK
  split at hK
  · exact hK.elim
  rename_i g hg
  split at hK
  · exact quiet_wp H F ops o hg hK next Q hn
  · rename_i hs
    split at hK
    · rename_i d cs c hd ho
      rw [optNeeds_iff] at hK
      obtain ⟨hneed, hc, hK⟩ := hK
      rw [guard_sound F ops o hg]
      exact begin_sound H F hB o hs hd (hm d ⟨hs, hd⟩) hneed ho hc hK next Q hn
    · exact hK.elim
  · split at hK
    · rw [guard_sound F ops o hg]
      exact effect_sound H F o (fun v => v) (fun _ _ _ _ h => h) (fun _ _ h => h) hK next Q hn
    · rename_i b
      rw [guard_sound F ops o hg]
      cases b with
      | true => exact effect_sound H F o (yesV P o.type true) (fun _ _ _ _ h => yes_rel h) (fun _ _ h => yes_men h) hK next Q hn
      | false =>
        refine hn S w h _ lm _ hK H (F.put _ no_rel) (Le.refl _ _ _ _) (fun d hd _ => hd.put _ no_men)

theorem men_kill {d : Nat} {v : V} : ¬ men d (killV d v) ∧ ∀ e, ¬ men e v → ¬ men e (killV d v) := by
  have hb : ∀ e, Nat.beq e d = false → e ≠ d := fun e h => by rintro rfl; rw [Nat.beq_refl] at h; cases h
  cases v with
  | lp e off =>
    simp only [killV]
    cases hx : Nat.beq e d with
    | true => exact ⟨fun f => f, fun _ _ f => f⟩
    | false => exact ⟨hb e hx, fun _ h => h⟩
  | opt b v =>
    cases v with
    | lp e off =>
      simp only [killV]
      cases hx : Nat.beq e d with
      | true => exact ⟨fun f => f, fun _ _ f => f⟩
      | false => exact ⟨fun f => hb e hx f, fun _ h => h⟩
    | opt b v => exact ⟨fun f => f, fun _ _ f => f⟩
    | _ => exact ⟨fun f => f, fun _ h => h⟩
  | _ => exact ⟨fun f => f, fun _ h => h⟩

theorem kill_rel {d : Nat} {v : V} {x : Value} (h : TmRel S w lm v x) : TmRel S w lm (killV d v) x := by
  unfold killV
  split
  · split
    · exact Rel.undef _
    · exact h
  · split
    · exact Rel.undef _
    · exact h
  · exact Rel.undef _
  · exact h

theorem kill_sound : ∀ (ds : List Nat) {fr : Fr}, FR B S w h fr lm a → FR B S w h (killAll ds fr) lm a ∧ (∀ d ∈ ds, NoLp d (killAll ds fr)) ∧ (∀ d, NoLp d fr → NoLp d (killAll ds fr))
  | [], fr, F => ⟨F, fun _ h => (by cases h), fun _ h => h⟩
  | d :: ds, fr, F => by
    have F1 : FR B S w h { fr with tm := fr.tm.map (killV d) } lm a :=
      { size := by simp [F.size]
        tm := fun i v hv => by
          simp only [List.getElem?_map, Option.map_eq_some_iff] at hv
          obtain ⟨u, hu, rfl⟩ := hv
          exact kill_rel (F.tm i u hu)
        vars := F.vars, inj := F.inj, lb := F.lb, lo := F.lo, nd := F.nd, dfs := F.dfs }
    have n1 : NoLp d { fr with tm := fr.tm.map (killV d) } := fun i v hv => by
      simp only [List.getElem?_map, Option.map_eq_some_iff] at hv
      obtain ⟨u, hu, rfl⟩ := hv
      exact men_kill.1
    have n2 : ∀ e, NoLp e fr → NoLp e { fr with tm := fr.tm.map (killV d) } := fun e he i v hv => by
      simp only [List.getElem?_map, Option.map_eq_some_iff] at hv
      obtain ⟨u, hu, rfl⟩ := hv
      exact men_kill.2 _ (he i u hu)
    obtain ⟨k1, k2, k3⟩ := kill_sound ds F1
    refine ⟨k1, fun e he => ?_, fun e he => k3 e (n2 e he)⟩
    rcases List.mem_cons.1 he with rfl | he
    · exact k3 _ n1
    · exact k2 e he

theorem begun_mem {o : Oper} {d : Nat} (hb : Begins esc o d) : ∀ {ops : List Oper}, o ∈ ops → d ∈ begun esc ops
  | [], h => by cases h
  | x :: ops, h => by
    simp only [begun]
    rcases List.mem_cons.1 h with rfl | h
    · rw [hb.1, hb.2]; simp
    · have := begun_mem hb h
      split
      · exact List.mem_cons_of_mem _ this
      · exact this

theorem nodup_tail {o : Oper} {r : List Oper} (h : nodupN (begun esc (o :: r)) = true) : nodupN (begun esc r) = true := by
  simp only [begun] at h
  split at h
  · simp only [nodupN, Bool.and_eq_true] at h; exact h.2
  · exact h

theorem nodup_head {o : Oper} {r : List Oper} {d : Nat} (h : nodupN (begun esc (o :: r)) = true) (hb : Begins esc o d) (hd : d ∈ begun esc r) : False := by
  simp only [begun, hb.1, hb.2, nodupN, Bool.and_eq_true, Bool.not_eq_true', List.any_eq_false] at h
  exact h.1 d hd (Nat.beq_refl d)

def Goal (B : Nat) (h : Heap) (S : Sim) (w : World) (K : Fr → Heap → Prop) (next : Act → World → Prop) : Prop :=
  ∀ S' w' h' fr' lm' a', K fr' h' → HR S' w' h' → FR B S' w' h' fr' lm' a' → Le (fun rb => B ≤ rb) h S w h' S' w' → next a' w'

theorem opsW_sound {ro : Option Nat} (ops : List Oper) (Q : Exit → Act → World → Prop) : ∀ (l : List Nat) (r : List Oper), (∀ i ∈ l, i < ops.length) → r = l.filterMap (fun i => ops[i]?) → nodupN (begun esc r) = true →
    ∀ {S w h fr lm a K}, HR S w h → FR B S w h fr lm a → B ≤ w.heap.size → (∀ o ∈ r, ∀ d, Begins esc o d → NoLp d fr) → opsW P esc ops r fr h K → Goal B h S w K (Q .normal) → wpOpsIn (FW ro) 0 P ops.toArray Q l a w
  | [], r, _, hr, _, S, w, h, fr, lm, a, K, H, F, hB, hm, hK, hg => by
    simp only [List.filterMap_nil] at hr
    subst hr
    exact hg S w h fr lm a hK H F (Le.refl _ _ _ _)
  | i :: l, r, hl, hr, hnd, S, w, h, fr, lm, a, K, H, F, hB, hm, hK, hg => by
    have hi := hl i (by simp)
    have hoi : ops[i]? = some ops[i] := List.getElem?_eq_getElem hi
    simp only [List.filterMap_cons, hoi] at hr
    subst hr
    have ho : ops.toArray[i]? = some ops[i] := by simp [hi]
    have hK : opW P esc ops ops[i] fr h fun fr' h' => opsW P esc ops (l.filterMap fun i => ops[i]?) fr' h' K := hK
    have := opW_sound (ro := ro) H F hB ops ops[i] (fun d hd => hm _ (by simp) d hd) hK (wpOpsIn (FW ro) 0 P ops.toArray Q l) Q ?_
    · simp only [wpOpsIn, ho]
      split
      · rename_i hw; rw [if_pos hw] at this; exact this
      · rename_i hw; rw [if_neg hw] at this; exact ⟨fun _ _ => trivial, this⟩
    · intro S' w' h' fr' lm' a' hk H' F' L' hnl
      refine opsW_sound ops Q l _ (fun j hj => hl j (by simp [hj])) rfl (nodup_tail hnd) H' F' (Nat.le_trans hB L'.size) ?_ hk ?_
      · intro o ho d hd
        exact hnl d (hm o (by simp [ho]) d hd) (fun hb => nodup_head hnd hb (begun_mem hd ho))
      · exact fun S2 w2 h2 fr2 lm2 a2 k2 H2 F2 L2 => hg S2 w2 h2 fr2 lm2 a2 k2 H2 F2 (Le.trans H L' L2)

theorem range_filterMap (ops : List Oper) : ops = (List.range ops.toArray.size).filterMap (fun i => ops[i]?) := by
  have e : (List.range ops.length).filterMap (fun i => ops[i]?) = ops := by
    have : ∀ n, n ≤ ops.length → (List.range n).filterMap (fun i => ops[i]?) = ops.take n := by
      intro n
      induction n with
      | zero => intro _; simp
      | succ n ih =>
        intro hn
        rw [List.range_succ, List.filterMap_append, ih (by omega)]
        rw [List.take_add_one, List.getElem?_eq_getElem (by omega : n < ops.length)]
        simp [List.getElem?_eq_getElem (by omega : n < ops.length)]
    rw [this _ (Nat.le_refl _), List.take_length]
  rw [List.size_toArray]
  exact e.symm

theorem region_sound {ro : Option Nat} (H : HR S w h) (F : FR B S w h fr lm a) (hB : B ≤ w.heap.size) (ops : Array Oper) (id : Nat) {K : Fr → Heap → Prop} (hK : regW P esc ops.toList false fr h K) {Q : Exit → Act → World → Prop}
    (hg : Goal B h S w K (Q .normal)) : (Code.region id ops false).wpIn (FW ro) 0 P Q a w := by
  simp only [regW] at hK
  split at hK
  · rename_i hnd
    obtain ⟨F1, n1, _⟩ := kill_sound (begun esc ops.toList) F
    refine wpIn_region ?_
    have := opsW_sound (ro := ro) (P := P) (esc := esc) ops.toList Q (List.range ops.size) ops.toList (fun i hi => by simpa using hi) (range_filterMap ops.toList) hnd H F1 hB (fun o ho d hd => n1 d (begun_mem hd ho)) hK hg
    simpa using this
  · exact hK.elim
end
end Jb
end

section
/- Operations that change places: the laws of 'opW' alone, with no world in sight. -/
namespace Jb
open Go Go.RowKit

section
variable {P : Program} {esc : List Nat} {ops : List Oper}

/-! What looks at the same gives the same. -/

def Same (o : Oper) (ops : List Oper) (fr fr' : Fr) : Prop := ∀ t ∈ o.looksAt ops.toArray, fr.tm.getD t .undef = fr'.tm.getD t .undef

theorem Same.ev {o : Oper} {fr fr' : Fr} (s : Same o ops fr fr') : ∀ x ∈ o.op.operands.toList, fr.ev x = fr'.ev x := by
  intro x hx
  cases x with
  | tmp t =>
    refine s t (List.mem_append_left _ (List.mem_filterMap.2 ⟨.tmp t, hx, rfl⟩))
  | _ => rfl

theorem Same.guard {o : Oper} {fr fr' : Fr} (s : Same o ops fr fr') : guardOf ops fr o = guardOf ops fr' o := by
  unfold guardOf
  cases hg : o.guard with
  | none => rfl
  | some jw =>
    obtain ⟨j, want⟩ := jw
    simp only
    cases hj : ops[j]? with
    | none => rfl
    | some p =>
      simp only
      cases hd : p.dst with
      | none => rfl
      | some d =>
        simp only
        rw [s d (List.mem_append_right _ (by simp [hg, hj, hd]))]

theorem map_ev {l : List Operand} {ρ ρ' : Operand → V} (h : ∀ x ∈ l, ρ x = ρ' x) : l.map ρ = l.map ρ' := List.map_congr_left h

theorem Same.mapEv {o : Oper} {fr fr' : Fr} (s : Same o ops fr fr') : o.op.operands.toList.map fr.ev = o.op.operands.toList.map fr'.ev := map_ev s.ev

theorem qop_congr {m : Nat} {op : Op} {fr fr' : Fr} {h h' : Heap} {ρ ρ' : Operand → V} (hρ : ∀ x ∈ op.operands.toList, ρ x = ρ' x)
    (hm : ∀ t x, op = .load t x → loadQ P m fr h t (ρ x) = loadQ P m fr' h' t (ρ x)) (hh : isRead op = true → h = h') : qop P m fr h ρ op = qop P m fr' h' ρ' op := by
  have pairs : ∀ ps : List (Nat × Operand), (∀ x ∈ ps.map (·.2), ρ x = ρ' x) → (ps.map fun e => (e.1, ρ e.2)) = (ps.map fun e => (e.1, ρ' e.2)) := fun ps hp =>
    List.map_congr_left fun p hp' => by rw [hp p.2 (List.mem_map.2 ⟨p, hp', rfl⟩)]
  cases op <;> simp only [Op.operands] at hρ <;> try rfl
  case move x => simp only [qop]; rw [hρ x (by simp)]
  case assign x => simp only [qop]; rw [hρ x (by simp)]
  case build t ps => simp only [qop]; rw [pairs _ (fun x hx => hρ x (by simpa using hx))]
  case buildSlice t n ps => simp only [qop]; rw [pairs _ (fun x hx => hρ x (by simpa using hx))]
  case load t x => simp only [qop]; rw [← hρ x (by simp)]; exact hm t x rfl
  case nilCheck x => simp only [qop]; rw [hρ x (by simp)]
  case binOp op t x y t2 => simp only [qop]; rw [hρ x (by simp), hρ y (by simp)]
  case unOp op t x => simp only [qop]; rw [hρ x (by simp)]
  case convert a b x => simp only [qop]; rw [hρ x (by simp), hh rfl]
  case lookup t x i ok => simp only [qop]; rw [hρ x (by simp), hρ i (by simp), hh rfl]
  case fieldAddr a x f => simp only [qop]; rw [hρ x (by simp)]
  case indexAddr a x i => simp only [qop]; rw [hρ x (by simp), hρ i (by simp)]
  case index a x i => simp only [qop]; rw [hρ x (by simp), hρ i (by simp)]
  case field a x f => simp only [qop]; rw [hρ x (by simp)]
  case extract x i => simp only [qop]; rw [hρ x (by simp)]
  case slice t x lo hi mx =>
    simp only [qop]
    rw [hρ x (by simp)]
    have o : ∀ y : Option Operand, (∀ z, y = some z → ρ z = ρ' z) → y.map ρ = y.map ρ' := fun y hy => by
      cases y with
      | none => rfl
      | some z => simp [hy z rfl]
    rw [o lo (fun z hz => hρ z (by subst hz; simp)), o hi (fun z hz => hρ z (by subst hz; simp)), o mx (fun z hz => hρ z (by subst hz; simp))]
  case makeFunc f xs ys =>
    cases f <;> try rfl
    simp only [qop]
    rw [map_ev (fun x hx => hρ x (by simp; exact .inl (by simpa using hx))), map_ev (l := ys.toList) (fun x hx => hρ x (by simp; exact .inr (by simpa using hx)))]
  case makeInterface t x => simp only [qop]; rw [hρ x (by simp)]
  case call c =>
    obtain ⟨callee, args, ts⟩ := c
    cases callee <;> try rfl
    case builtin b =>
      have ha : args.toList.map ρ = args.toList.map ρ' := map_ev fun x hx => hρ x (by simpa [Call.operands] using hx)
      cases b <;> try rfl
      case len =>
        simp only [qop]
        split
        · rename_i t r x s h1 h2
          rw [hρ x (by have : x ∈ args.toList := by rw [h2]; simp
                       simpa [Call.operands] using this)]
        · rfl
      case min => simp only [qop]; rw [ha]
      case max => simp only [qop]; rw [ha]

/-! What an operation without an effect does to a frame. -/

inductive Tr where
  | put (d : Option Tmp) (v : V)
  | beg (d : Nat) (cs : List V)

def Tr.app : Tr → Fr → Fr
  | .put d v, fr => fr.put d v
  | .beg d cs, fr => { tm := fr.tm.set d (.lp d 0), lc := lcSet d cs fr.lc }

def Tr.slot : Tr → Option Tmp
  | .put d _ => d
  | .beg d _ => some d

def Tr.begs : Tr → Nat → Prop
  | .put _ _, _ => False
  | .beg d _, e => d = e

theorem set_getD {l : List V} {d t : Nat} {v : V} (h : d ≠ t) : (l.set d v).getD t .undef = l.getD t .undef := by
  simp [List.getD, h]

theorem Tr.tm {τ : Tr} {fr : Fr} {t : Nat} (h : τ.slot ≠ some t) : (τ.app fr).tm.getD t .undef = fr.tm.getD t .undef := by
  cases τ with
  | put d v =>
    cases d with
    | none => rfl
    | some d => exact set_getD (fun e => h (by simp [Tr.slot, e]))
  | beg d cs => exact set_getD (fun e => h (by simp [Tr.slot, e]))

theorem find_lcSet {d e : Nat} (hne : d ≠ e) (cs : List V) : ∀ (l : List (Nat × List V)), (lcSet d cs l).find? (fun x => x.1 == e) = l.find? (fun x => x.1 == e)
  | [] => by simp [lcSet, hne]
  | x :: l => by
    rcases Nat.lt_trichotomy x.1 d with a | a | a
    · rw [lcSet_gt a, List.find?_cons, List.find?_cons, find_lcSet hne cs l]
    · rw [lcSet_eq a, List.find?_cons, List.find?_cons]
      have h1 : (d == e) = false := by simpa using hne
      have h2 : (x.1 == e) = false := by rw [a]; exact h1
      simp only [h1, h2]
    · rw [lcSet_lt a, List.find?_cons]
      have h1 : (d == e) = false := by simpa using hne
      simp only [h1]

theorem var_lcSet {fr : Fr} {d e : Nat} (hne : d ≠ e) (cs : List V) (tm : List V) : Fr.var { tm := tm, lc := lcSet d cs fr.lc } e = fr.var e := by
  simp only [Fr.var, find_lcSet hne]

theorem Tr.var {τ : Tr} {fr : Fr} {e : Nat} (h : ¬ τ.begs e) : (τ.app fr).var e = fr.var e := by
  cases τ with
  | put d v => cases d <;> rfl
  | beg d cs => exact var_lcSet h cs _

theorem Tr.comm {τ σ : Tr} (h : ∀ d, τ.slot = some d → σ.slot ≠ some d) (fr : Fr) : τ.app (σ.app fr) = σ.app (τ.app fr) := by
  have hs : ∀ {d e : Nat}, τ.slot = some d → σ.slot = some e → d ≠ e := fun h1 h2 e => h _ h1 (by rw [h2, e])
  cases τ with
  | put d v =>
    cases d with
    | none => rfl
    | some d =>
      cases σ with
      | put e u =>
        cases e with
        | none => rfl
        | some e => simp only [Tr.app, Fr.put]; rw [List.set_comm _ _ (Ne.symm (hs rfl rfl))]
      | beg e cs => simp only [Tr.app, Fr.put]; rw [List.set_comm _ _ (Ne.symm (hs rfl rfl))]
  | beg d cs =>
    cases σ with
    | put e u =>
      cases e with
      | none => rfl
      | some e => simp only [Tr.app, Fr.put]; rw [List.set_comm _ _ (Ne.symm (hs rfl rfl))]
    | beg e ds => simp only [Tr.app]; rw [List.set_comm _ _ (Ne.symm (hs rfl rfl)), lcSet_comm (hs rfl rfl)]

/-! Quiet operations. -/

def quietRes : Q → Option Bool → V → Prop
  | .ok u, g, v => v = putOpt g u
  | .chk c u, none, v => c ∧ v = u
  | .chk c u, some b, v => (b = true → c) ∧ v = .opt b u
  | .bad, some b, v => b = false ∧ v = .opt false .undef
  | .bad, none, _ => False

theorem quietW_iff {g : Option Bool} {fr : Fr} {h : Heap} {o : Oper} {K : V → Prop} : quietW P esc g fr h o K ↔ ∃ v, (optNeeds g (quietOps o fr) True ∧ quietRes (quietQ P esc fr h o) g v) ∧ K v := by
  unfold quietW
  rw [optNeeds_iff, optNeeds_iff]
  cases quietQ P esc fr h o <;> cases g <;> simp only [quietRes] <;> constructor
  all_goals first
    | (rintro ⟨h1, h2, h3⟩; exact ⟨_, ⟨⟨h1, trivial⟩, h2, rfl⟩, h3⟩)
    | (rintro ⟨h1, h2⟩; exact ⟨_, ⟨⟨h1, trivial⟩, rfl⟩, h2⟩)
    | (rintro ⟨v, ⟨⟨h1, _⟩, h2, rfl⟩, h3⟩; exact ⟨h1, h2, h3⟩)
    | (rintro ⟨v, ⟨⟨h1, _⟩, rfl⟩, h3⟩; exact ⟨h1, h3⟩)
    | (rintro ⟨_, h⟩; exact h.elim)
    | (rintro ⟨_, ⟨_, h⟩, _⟩; exact h.elim)

def Does (P : Program) (esc : List Nat) (ops : List Oper) (o : Oper) (fr : Fr) (h : Heap) (τ : Tr) : Prop :=
  ∃ g, guardOf ops fr o = some g ∧
    ((sortOf esc o = 0 ∧ ∃ v, (optNeeds g (quietOps o fr) True ∧ quietRes (quietQ P esc fr h o) g v) ∧ τ = .put o.dst v) ∨
     (sortOf esc o = 1 ∧ g = none ∧ ∃ d cs c, o.dst = some d ∧ ownVar P o.op (fun x => (fr.ev x).strip) = some (cs, c) ∧ optNeeds none (o.op.operands.toList.map fr.ev) c ∧ τ = .beg d cs))

theorem sort_le (o : Oper) : sortOf esc o = 0 ∨ sortOf esc o = 1 ∨ sortOf esc o = 2 := by
  unfold sortOf
  repeat' split
  all_goals simp

theorem opW_iff {o : Oper} {fr : Fr} {h : Heap} {K : Fr → Heap → Prop} (hs : sortOf esc o ≠ 2) : opW P esc ops o fr h K ↔ ∃ τ, Does P esc ops o fr h τ ∧ K (τ.app fr) h := by
  unfold opW Does
  cases hg : guardOf ops fr o with
  | none => simp
  | some g =>
    simp only
    rcases sort_le (esc := esc) o with h0 | h0 | h0
    · rw [h0]
      simp only
      rw [quietW_iff]
      constructor
      · rintro ⟨v, hv, hK⟩
        exact ⟨.put o.dst v, ⟨g, rfl, .inl ⟨by trivial, v, hv, rfl⟩⟩, hK⟩
      · rintro ⟨τ, ⟨g', hg', ⟨_, v, hv, rfl⟩ | ⟨h1, _⟩⟩, hK⟩
        · cases hg'; exact ⟨v, hv, hK⟩
        · cases h1
    · rw [h0]
      simp only
      constructor
      · intro hK
        split at hK
        · rename_i d cs c hd ho
          rw [optNeeds_iff] at hK
          exact ⟨.beg d cs, ⟨none, rfl, .inr ⟨by trivial, rfl, d, cs, c, hd, ho, (optNeeds_iff _ _ _).2 ⟨hK.1, hK.2.1⟩, rfl⟩⟩, hK.2.2⟩
        · exact hK.elim
      · rintro ⟨τ, ⟨g', hg', ⟨h1, _⟩ | ⟨_, rfl, d, cs, c, hd, ho, hn, rfl⟩⟩, hK⟩
        · cases h1
        · cases hg'
          rw [hd, ho]
          simp only
          rw [optNeeds_iff] at hn ⊢
          exact ⟨hn.1, hn.2, hK⟩
    · exact (hs h0).elim

theorem Does.slot {o : Oper} {fr : Fr} {h : Heap} {τ : Tr} (D : Does P esc ops o fr h τ) : τ.slot = o.dst := by
  obtain ⟨g, _, ⟨_, v, _, rfl⟩ | ⟨_, _, d, cs, c, hd, _, _, rfl⟩⟩ := D
  · rfl
  · exact hd.symm

theorem Does.begs {o : Oper} {fr : Fr} {h : Heap} {τ : Tr} (D : Does P esc ops o fr h τ) {d : Nat} (hb : τ.begs d) : Begins esc o d := by
  obtain ⟨g, _, ⟨_, v, _, rfl⟩ | ⟨h1, _, d', cs, c, hd, _, _, rfl⟩⟩ := D
  · exact hb.elim
  · cases hb; exact ⟨h1, hd⟩
end
end Jb
end

section
/- Operations that change places, further. -/
namespace Jb
open Go Go.RowKit

section
variable {P : Program} {esc : List Nat} {ops : List Oper}

theorem need_mono {q : Q} {K K' : V → Prop} (h : q.need K) (m : ∀ v, K v → K' v) : q.need K' := by
  cases q with
  | ok v => exact m _ h
  | chk c v => exact ⟨h.1, m _ h.2⟩
  | bad => exact h

theorem shape1_mono {mt : Nat} {t : TypeId} {r : V} {K K' : V → Prop} (h : shape1 P mt t r K) (m : ∀ v, K v → K' v) : shape1 P mt t r K' := by
  unfold shape1 at *
  split at h
  · unfold ptrK at *
    split at h <;> first | exact m _ h | exact h
  · exact ⟨h.1, m _ h.2⟩
  · exact ⟨h.1, m _ h.2⟩
  · exact ⟨h.1, m _ h.2⟩
  · exact need_mono h m

theorem shapes_mono {mt : Nat} : ∀ {ts : List TypeId} {i : Nat} {vs : List V} {K K' : List V → Prop}, shapes P mt ts i vs K → (∀ vs, K vs → K' vs) → shapes P mt ts i vs K'
  | [], _, _, _, _, h, m => m _ h
  | _ :: _, _, _, _, _, h, m => shape1_mono h fun _ h => shapes_mono h fun _ h => m _ h

theorem shapeW_mono {mt : Nat} {t : TypeId} {r : V} {K K' : V → Prop} (h : shapeW P mt t r K) (m : ∀ v, K v → K' v) : shapeW P mt t r K' := by
  unfold shapeW at *
  split at h
  · exact ⟨h.1, shapes_mono h.2 fun _ h => m _ h⟩
  · exact shape1_mono h m

theorem AnyW.mono {f : FuncId} {args : List V} {h : Heap} {K K' : V → Heap → Prop} (c : AnyW P f args h K) (m : ∀ r h', K r h' → K' r h') : AnyW P f args h K' := by
  unfold AnyW at *
  split at c
  · exact CallW.mono c m
  · exact fun S w xs H R => by
      obtain ⟨r, x, w', h', S', a, k, b⟩ := c S w xs H R
      exact ⟨r, x, w', h', S', a, m _ _ k, b⟩

theorem appG_mono {es n m : Nat} {g : G} {h : Heap} {K K' : G → Heap → Prop} (hK : appG es n m g h K) (mo : ∀ r h', K r h' → K' r h') : appG es n m g h K' := by
  unfold appG at *
  split at hK
  · exact ⟨hK.1, mo _ _ hK.2⟩
  · split at hK
    · exact mo _ _ hK
    · exact fun s hs => mo _ _ (hK s hs)
  · exact hK

theorem appendW_mono {t t2 : TypeId} {u v : V} {h : Heap} {K K' : V → Heap → Prop} (hK : appendW P t t2 u v h K) (m : ∀ r h', K r h' → K' r h') : appendW P t t2 u v h K' := by
  unfold appendW at *
  split at hK <;> try exact hK.elim
  split at hK <;> try exact hK.elim
  split at hK <;> try exact hK.elim
  split at hK <;> try exact hK.elim
  exact ⟨hK.1, appG_mono hK.2 fun _ _ k => m _ _ k⟩

theorem appendM_mono {t t2 : TypeId} {u v : V} {h : Heap} {K K' : V → Heap → Prop} (hK : appendM P t t2 u v h K) (m : ∀ r h', K r h' → K' r h') : appendM P t t2 u v h K' := by
  unfold appendM at *
  split at hK <;> try exact hK.elim
  split at hK <;> try exact hK.elim
  split at hK <;> try exact hK.elim
  split at hK <;> try exact hK.elim
  obtain ⟨h1, h2, h3, h4⟩ := hK
  exact ⟨h1, h2, h3, fun a b c d e => m _ _ (h4 a b c d e)⟩

theorem appendD_mono {t t2 : TypeId} {u v : V} {h : Heap} {K K' : V → Heap → Prop} (hK : appendD P t t2 u v h K) (m : ∀ r h', K r h' → K' r h') : appendD P t t2 u v h K' := by
  unfold appendD at *
  split at hK <;> try exact hK.elim
  split at hK <;> try exact hK.elim
  split at hK <;> try exact hK.elim
  obtain ⟨hc, hK⟩ := hK
  refine ⟨hc, ?_⟩
  split at hK
  · split at hK <;> try exact hK.elim
    obtain ⟨h1, h2, h3, h4, h5⟩ := hK
    exact ⟨h1, h2, h3, fun e => m _ _ (h4 e), fun hp a b c d e => m _ _ (h5 hp a b c d e)⟩
  · split at hK <;> try exact hK.elim
    obtain ⟨h1, h2, h3⟩ := hK
    exact ⟨h1, fun e => m _ _ (h2 e), fun hp a b c d e f => m _ _ (h3 hp a b c d e f)⟩
  · exact hK

theorem appendX_mono {mt : Nat} {t t2 : TypeId} {u v : V} {h : Heap} {K K' : V → Heap → Prop} (hK : appendX P mt t t2 u v h K) (m : ∀ r h', K r h' → K' r h') : appendX P mt t t2 u v h K' := by
  unfold appendX at *
  split at hK
  · exact appendW_mono hK m
  · exact appendM_mono hK m
  · exact appendD_mono hK m

theorem storeW_mono {t : TypeId} {u v : V} {fr : Fr} {h : Heap} {K K' : Fr → Heap → Prop} (hK : storeW P t u v fr h K) (m : ∀ f h', f.tm = fr.tm → K f h' → K' f h') : storeW P t u v fr h K' := by
  unfold storeW at *
  split at hK <;> try exact hK.elim
  split at hK <;> try exact hK.elim
  split at hK
  · exact ⟨hK.1, hK.2.1, m _ _ rfl hK.2.2⟩
  · exact ⟨hK.1, hK.2.1, m _ _ rfl hK.2.2⟩
  · exact hK

theorem copyW_mono {t t2 : TypeId} {u v : V} {h : Heap} {K K' : V → Heap → Prop} (hK : copyW P t t2 u v h K) (m : ∀ v h', K v h' → K' v h') : copyW P t t2 u v h K' := by
  unfold copyW at *
  split at hK <;> try exact hK.elim
  split at hK <;> try exact hK.elim
  split at hK
  · split at hK
    · obtain ⟨h1, h2, h3, h4, h5⟩ := hK; exact ⟨h1, h2, h3, h4, m _ _ h5⟩
    · exact hK
  · obtain ⟨h1, h2, h3⟩ := hK; exact ⟨h1, h2, m _ _ h3⟩
  · exact hK

theorem lenMW_mono {t : TypeId} {u : V} {h : Heap} {K K' : V → Heap → Prop} (hK : lenMW P t u h K) (m : ∀ v h', K v h' → K' v h') : lenMW P t u h K' := by
  unfold lenMW at *
  split at hK <;> first | exact m _ _ hK | exact hK

theorem clearW_mono {t : TypeId} {u : V} {h : Heap} {K K' : V → Heap → Prop} (hK : clearW P t u h K) (m : ∀ v h', K v h' → K' v h') : clearW P t u h K' := by
  unfold clearW at *
  split at hK <;> try exact hK.elim
  split at hK <;> try exact hK.elim
  split at hK
  · split at hK
    · obtain ⟨h1, h2, h3, h4⟩ := hK; exact ⟨h1, h2, h3, m _ _ h4⟩
    · exact hK
  · exact hK

theorem makeSliceW_mono {t : TypeId} {u v : V} {h : Heap} {K K' : V → Heap → Prop} (hK : makeSliceW P t u v h K) (m : ∀ v h', K v h' → K' v h') : makeSliceW P t u v h K' := by
  unfold makeSliceW at *
  split at hK <;> try exact hK.elim
  split at hK <;> try exact hK.elim
  split at hK
  · obtain ⟨h1, h2, h3, h4⟩ := hK; exact ⟨h1, h2, h3, fun k hk => m _ _ (h4 k hk)⟩
  · exact hK

theorem mapUpdateW_mono {t : TypeId} {u k v : V} {h : Heap} {K K' : Heap → Prop} (hK : mapUpdateW P t u k v h K) (m : ∀ h', K h' → K' h') : mapUpdateW P t u k v h K' := by
  unfold mapUpdateW at *
  split at hK <;> try exact hK.elim
  split at hK <;> try exact hK.elim
  split at hK
  · exact m _ hK
  · exact hK

theorem effW_mono {mt : Nat} {op : Op} {ty : TypeId} {ρ : Operand → V} {fr : Fr} {h : Heap} {K K' : V → Fr → Heap → Prop} (hK : effW P mt op ty ρ fr h K) (m : ∀ v f h', f.tm = fr.tm → K v f h' → K' v f h') : effW P mt op ty ρ fr h K' := by
  unfold effW at *
  split at hK
  · split at hK
    · exact fun l hl => m _ _ _ rfl (hK l hl)
    · exact hK
  · split at hK
    · exact ⟨hK.1, fun l hl => m _ _ _ rfl (hK.2 l hl)⟩
    · exact hK
  · exact storeW_mono hK fun f h' e k => m _ _ _ e k
  · split at hK
    · exact ⟨hK.1, fun l hl => m _ _ _ rfl (hK.2 l hl)⟩
    · exact hK
  · exact makeSliceW_mono hK fun v h' k => m _ _ _ rfl k
  · exact fun l hl => m _ _ _ rfl (hK l hl)
  · exact mapUpdateW_mono hK fun h' k => m _ _ _ rfl k
  · split at hK
    · split at hK
      · exact fun b hb => m _ _ _ rfl (hK b hb)
      · exact fun b hb => m _ _ _ rfl (hK b hb)
      · exact fun b hb => m _ _ _ rfl (hK b hb)
      · exact fun b hb => m _ _ _ rfl (hK b hb)
      · exact hK
    · exact hK
  · split at hK
    · split at hK
      · exact ⟨hK.1, hK.2.1, m _ _ _ rfl hK.2.2⟩
      · exact hK
    · exact hK
  · split at hK
    · split at hK
      · split at hK
        · exact AnyW.mono hK fun r h' k => shapeW_mono k fun v k => m _ _ _ rfl k
        · exact hK
      · split at hK
        · exact YieldW.mono hK fun r h' k => shapeW_mono k fun v k => m _ _ _ rfl k
        · exact hK
      · exact hK
    · split at hK
      · exact appendX_mono hK fun v h' k => m _ _ _ rfl k
      · exact hK
    · split at hK
      · exact copyW_mono hK fun v h' k => m _ _ _ rfl k
      · exact hK
    · split at hK
      · exact lenMW_mono hK fun v h' k => m _ _ _ rfl k
      · exact hK
    · split at hK
      · exact clearW_mono hK fun v h' k => m _ _ _ rfl k
      · exact hK
    · exact hK
  · exact hK

structure Info (esc : List Nat) (ops : List Oper) (o : Oper) (fr : Fr) (h : Heap) (f : Fr) (h' : Heap) : Prop where
  tm : ∀ t, o.dst ≠ some t → f.tm.getD t .undef = fr.tm.getD t .undef
  heap : sortOf esc o ≠ 2 ∨ guardOf ops fr o = some (some false) → h' = h
  var : sortOf esc o ≠ 2 ∨ guardOf ops fr o = some (some false) → ∀ d, ¬ Begins esc o d → f.var d = fr.var d

theorem put_getD {fr : Fr} {dst : Option Tmp} {v : V} {t : Nat} (h : dst ≠ some t) : (fr.put dst v).tm.getD t .undef = fr.tm.getD t .undef := Tr.tm (τ := .put dst v) h

theorem opW_mono {o : Oper} {fr : Fr} {h : Heap} {K K' : Fr → Heap → Prop} (hK : opW P esc ops o fr h K) (m : ∀ f h', Info esc ops o fr h f h' → K f h' → K' f h') : opW P esc ops o fr h K' := by
  by_cases hs : sortOf esc o = 2
  · unfold opW at *
    cases hg : guardOf ops fr o with
    | none => rw [hg] at hK; exact hK
    | some g =>
      rw [hg, hs] at hK
      rw [hs]
      simp only at hK ⊢
      have go : g ≠ some false → ∀ {m0 : V → V}, optNeeds none (o.op.operands.toList.map fr.ev) (effW P (dstMode o esc) o.op o.type (fun x => (fr.ev x).strip) fr h fun v fr' h' => K (fr'.put o.dst (m0 v)) h') →
          optNeeds none (o.op.operands.toList.map fr.ev) (effW P (dstMode o esc) o.op o.type (fun x => (fr.ev x).strip) fr h fun v fr' h' => K' (fr'.put o.dst (m0 v)) h') := fun hgf {_} hk => by
        have nf : ¬ (sortOf esc o ≠ 2 ∨ guardOf ops fr o = some (some false)) := by
          rintro (c | c)
          · exact c hs
          · rw [hg] at c; exact hgf (Option.some.inj c)
        rw [optNeeds_iff] at hk ⊢
        exact ⟨hk.1, effW_mono hk.2 fun v f h' e k => m _ _ ⟨fun t ht => by rw [put_getD ht, e], fun c => (nf c).elim, fun c => (nf c).elim⟩ k⟩
      cases g with
      | none => exact go (by simp) (m0 := fun v => v) hK
      | some b =>
        cases b with
        | true => exact go (by simp) (m0 := yesV P o.type true) hK
        | false => exact m _ _ ⟨fun t ht => put_getD ht, fun _ => rfl, fun _ d _ => by cases o.dst <;> rfl⟩ hK
  · rw [opW_iff hs] at *
    obtain ⟨τ, D, k⟩ := hK
    refine ⟨τ, D, m _ _ ⟨fun t ht => Tr.tm (by rw [D.slot]; exact ht), fun _ => rfl, fun _ d hd => Tr.var (fun hb => hd (D.begs hb))⟩ k⟩

/-! The same operation, from another frame. -/

theorem quietQ_congr {o : Oper} {fr fr' : Fr} {h h' : Heap} (s : Same o ops fr fr') (hl : ∀ m t x, o.op = .load t x → loadQ P m fr h t (fr.ev x).strip = loadQ P m fr' h' t (fr.ev x).strip) (hh : isRead o.op = true → h = h') : quietQ P esc fr h o = quietQ P esc fr' h' o := by
  have hev := s.ev
  unfold quietQ
  split
  · rename_i c a b e
    rw [e] at hev
    rw [hev c (by simp [Op.operands]), hev a (by simp [Op.operands]), hev b (by simp [Op.operands])]
  · rfl
  · exact qop_congr (fun x hx => by rw [hev x hx]) (hl _) hh

theorem quietOps_congr {o : Oper} {fr fr' : Fr} (s : Same o ops fr fr') : quietOps o fr = quietOps o fr' := by
  have hev := s.ev
  unfold quietOps
  split
  · rename_i c a b e
    rw [e] at hev
    rw [hev c (by simp [Op.operands])]
  · exact map_ev hev

theorem ownVar_congr {op : Op} {ρ ρ' : Operand → V} (h : ∀ x ∈ op.operands.toList, ρ x = ρ' x) : ownVar P op ρ = ownVar P op ρ' := by
  cases op <;> try rfl
  case box t x => simp only [ownVar]; rw [h x (by simp [Op.operands])]

theorem Does.congr {o : Oper} {fr fr' : Fr} {h h' : Heap} {τ : Tr} (D : Does P esc ops o fr h τ) (s : Same o ops fr fr') (hl : ∀ m t x, o.op = .load t x → loadQ P m fr h t (fr.ev x).strip = loadQ P m fr' h' t (fr.ev x).strip) (hh : isRead o.op = true → h = h') :
    Does P esc ops o fr' h' τ := by
  obtain ⟨g, hg, hd⟩ := D
  refine ⟨g, by rw [← s.guard]; exact hg, ?_⟩
  rcases hd with ⟨h0, v, ⟨h1, h2⟩, h3⟩ | ⟨h0, h1, d, cs, c, h2, h3, h4, h5⟩
  · exact .inl ⟨h0, v, ⟨by rw [← quietOps_congr s]; exact h1, by rw [← quietQ_congr s hl hh]; exact h2⟩, h3⟩
  · exact .inr ⟨h0, h1, d, cs, c, h2, by rw [← h3]; exact ownVar_congr fun x hx => by rw [s.ev x hx], by rw [← s.mapEv]; exact h4, h5⟩

theorem typed_congr {ρ ρ' : Operand → V} {t : TypeId} {x : Operand} (h : ρ x = ρ' x) : typed P ρ t x = typed P ρ' t x := by
  unfold typed
  split
  · rfl
  · exact h

theorem argsV_congr {ρ ρ' : Operand → V} : ∀ (ts : List TypeId) (l : List Operand), (∀ x ∈ l, ρ x = ρ' x) → argsV P ρ ts l = argsV P ρ' ts l
  | ts, [], _ => by cases ts <;> rfl
  | [], x :: l, h => by simp only [argsV]; rw [h x (by simp), argsV_congr [] l fun y hy => h y (by simp [hy])]
  | t :: ts, x :: l, h => by simp only [argsV]; rw [typed_congr (h x (by simp)), argsV_congr ts l fun y hy => h y (by simp [hy])]

theorem effW_congr {mt : Nat} {op : Op} {ty : TypeId} {ρ ρ' : Operand → V} {fr : Fr} {h : Heap} {K : V → Fr → Heap → Prop} (hρ : ∀ x ∈ op.operands.toList, ρ x = ρ' x) (hK : effW P mt op ty ρ fr h K) : effW P mt op ty ρ' fr h K := by
  have : effW P mt op ty ρ fr h K = effW P mt op ty ρ' fr h K := by
    cases op <;> try rfl
    case box t x => simp only [effW]; rw [hρ x (by simp [Op.operands])]
    case store t a x => simp only [effW]; rw [typed_congr (hρ x (by simp [Op.operands])), hρ a (by simp [Op.operands])]
    case makeMap t r => cases r <;> rfl
    case buildSlice t n ps =>
      have : (ps.toList.map fun e => (e.1, ρ e.2)) = (ps.toList.map fun e => (e.1, ρ' e.2)) := List.map_congr_left fun p hp => by rw [hρ p.2 (by simp [Op.operands]; exact ⟨p.1, by simpa using hp⟩)]
      simp only [effW]; rw [this]
    case makeSlice t n c => simp only [effW]; rw [hρ n (by simp [Op.operands]), hρ c (by simp [Op.operands])]
    case mapUpdate t m k v => simp only [effW]; rw [hρ m (by simp [Op.operands]), hρ k (by simp [Op.operands]), hρ v (by simp [Op.operands])]
    case convert s d x => simp only [effW]; rw [hρ x (by simp [Op.operands])]
    case binOp op t x y t2 =>
      have hx := hρ x (by simp [Op.operands])
      unfold effW
      split <;> first
        | rfl
        | (rename_i e; cases e; done)
        | (rename_i e; cases e; simp only [hx])
    case call c =>
      obtain ⟨callee, args, ts⟩ := c
      have hx : ∀ z ∈ args.toList, ρ z = ρ' z := fun z hz => hρ z (by cases callee <;> simp [Op.operands, Call.operands] <;> first | exact .inr (by simpa using hz) | simpa using hz)
      cases callee with
      | value f =>
        simp only [effW]; rw [argsV_congr _ _ hx, hρ f (by simp [Op.operands, Call.operands])]
      | invoke a b => rfl
      | builtin b =>
        cases b <;> try rfl
        case append =>
          simp only [effW]
          split
          · rename_i t t2 r x y h1 h2
            rw [typed_congr (hx x (by rw [h2]; simp)), typed_congr (hx y (by rw [h2]; simp))]
          · rfl
        case copy =>
          simp only [effW]
          split
          · rename_i t t2 r x y h1 h2
            rw [typed_congr (hx x (by rw [h2]; simp)), typed_congr (hx y (by rw [h2]; simp))]
          · rfl
        case len =>
          simp only [effW]
          split
          · rename_i t r x h1 h2
            rw [hx x (by rw [h2]; simp)]
          · rfl
        case clear =>
          simp only [effW]
          split
          · rename_i t r x h1 h2
            rw [typed_congr (hx x (by rw [h2]; simp))]
          · rfl
  rw [← this]; exact hK

theorem storeW_frame {t : TypeId} {u v : V} {τ : Tr} {fr : Fr} {h : Heap} {K : Fr → Heap → Prop} (hm : ∀ d, τ.begs d → ¬ men d u) (hK : storeW P t u v (τ.app fr) h K) : storeW P t u v fr h fun f h' => K (τ.app f) h' := by
  unfold storeW at *
  split at hK <;> try exact hK.elim
  split at hK <;> try exact hK.elim
  split at hK
  · exact hK
  · rename_i d off
    have hd : ¬ τ.begs d := fun hb => hm d hb rfl
    rw [Tr.var hd] at hK
    refine ⟨hK.1, hK.2.1, ?_⟩
    have h2 := hK.2.2
    cases τ with
    | put e w => cases e <;> exact h2
    | beg e cs =>
      simp only [Tr.app] at h2 ⊢
      rw [lcSet_comm hd]
      exact h2
  · exact hK

theorem effW_frame {mt : Nat} {op : Op} {ty : TypeId} {ρ : Operand → V} {τ : Tr} {fr : Fr} {h : Heap} {K : V → Fr → Heap → Prop} (hm : ∀ d, τ.begs d → ∀ x ∈ op.operands.toList, ¬ men d (ρ x)) (hK : effW P mt op ty ρ (τ.app fr) h K) :
    effW P mt op ty ρ fr h fun v f h' => K v (τ.app f) h' := by
  cases op <;> try exact hK
  case makeMap t r => cases r <;> exact hK
  case binOp op t x y t2 =>
    unfold effW at *
    split at hK <;> first | exact hK.elim | (rename_i e; cases e; done) | (rename_i e; cases e; exact hK)
  case store t a x => exact storeW_frame (K := fun f h' => K .undef f h') (fun d hd => hm d hd a (by simp [Op.operands])) hK

theorem load_frame {m : Nat} {τ : Tr} {fr : Fr} {h : Heap} {t : TypeId} {v : V} (hm : ∀ d, τ.begs d → ¬ men d v) : loadQ P m (τ.app fr) h t v = loadQ P m fr h t v := by
  cases v <;> try rfl
  case lp d off => simp only [loadQ]; rw [Tr.var (fun hb => hm d hb rfl)]

theorem opW_frame {o : Oper} {τ : Tr} {fr : Fr} {h : Heap} {K : Fr → Heap → Prop} (h1 : ∀ s, τ.slot = some s → s ∉ o.looksAt ops.toArray) (h2 : ∀ s, τ.slot = some s → o.dst ≠ some s)
    (hm : ∀ d, τ.begs d → ∀ x ∈ o.op.operands.toList, ¬ men d (fr.ev x)) (hK : opW P esc ops o (τ.app fr) h K) : opW P esc ops o fr h fun f h' => K (τ.app f) h' := by
  have s : Same o ops (τ.app fr) fr := fun t ht => Tr.tm (fun e => h1 t e ht)
  have hm' : ∀ d, τ.begs d → ∀ x ∈ o.op.operands.toList, ¬ men d (fr.ev x).strip := fun d hd x hx => men_strip (hm d hd x hx)
  by_cases hs : sortOf esc o = 2
  · unfold opW at *
    rw [s.guard] at hK
    cases hg : guardOf ops fr o with
    | none => rw [hg] at hK; exact hK
    | some g =>
      rw [hg, hs] at hK
      rw [hs]
      simp only at hK ⊢
      have cm : ∀ (f : Fr) (v : V), (τ.app f).put o.dst v = τ.app (f.put o.dst v) := fun f v => (Tr.comm (τ := τ) (σ := .put o.dst v) (fun d hd => by simpa [Tr.slot] using h2 d hd) f).symm
      have go : ∀ {m0 : V → V}, optNeeds none (o.op.operands.toList.map (τ.app fr).ev) (effW P (dstMode o esc) o.op o.type (fun x => ((τ.app fr).ev x).strip) (τ.app fr) h fun v fr' h' => K (fr'.put o.dst (m0 v)) h') →
          optNeeds none (o.op.operands.toList.map fr.ev) (effW P (dstMode o esc) o.op o.type (fun x => (fr.ev x).strip) fr h fun v fr' h' => K (τ.app (fr'.put o.dst (m0 v))) h') := fun {_} hk => by
        rw [s.mapEv] at hk
        rw [optNeeds_iff] at hk ⊢
        refine ⟨hk.1, ?_⟩
        have hk := effW_frame hm' (effW_congr (fun x hx => by rw [s.ev x hx]) hk.2)
        exact effW_mono hk fun v f h' _ k => by rw [← cm]; exact k
      cases g with
      | none => exact go (m0 := fun v => v) hK
      | some b =>
        cases b with
        | true => exact go (m0 := yesV P o.type true) hK
        | false => show K _ h; rw [← cm]; exact hK
  · rw [opW_iff hs] at *
    obtain ⟨σ, D, k⟩ := hK
    refine ⟨σ, D.congr s (fun m t x e => ?_) (fun _ => rfl), ?_⟩
    · have hx : x ∈ o.op.operands.toList := by rw [e]; simp [Op.operands]
      rw [s.ev x hx]
      exact load_frame fun d hd => hm' d hd x hx
    · rw [Tr.comm (fun d hd => by rw [D.slot]; exact h2 d hd)]
      exact k
end
end Jb
end

section
/- Statements, and calls. A region with a draw is handed in as a premise: JbT proves it. -/
namespace Jb
open Go Go.RowKit

def exOf : Ex → Exit
  | .normal => .normal
  | .exit id => .exit id
  | .goto l => .goto l
  | .ret => .ret

section
variable {P : Program} {S : Sim} {w : World} {h : Heap} {lm : Nat → Option Nat} {B : Nat} {fr : Fr} {a : Act} {esc : List Nat} {cf : Cfg}

def GoalX (B : Nat) (h : Heap) (S : Sim) (w : World) (K : Ex → Fr → Heap → Prop) (Q : Exit → Act → World → Prop) : Prop :=
  ∀ e S' w' h' fr' lm' a', K e fr' h' → HR S' w' h' → FR B S' w' h' fr' lm' a' → Le (fun rb => B ≤ rb) h S w h' S' w' → Q (exOf e) a' w'

theorem GoalX.step {h1 : Heap} {S1 : Sim} {w1 : World} {K : Ex → Fr → Heap → Prop} {Q : Exit → Act → World → Prop} (H : HR S w h) (g : GoalX B h S w K Q) (L : Le (fun rb => B ≤ rb) h S w h1 S1 w1) : GoalX B h1 S1 w1 K Q :=
  fun e S' w' h' fr' lm' a' k H' F' L' => g e S' w' h' fr' lm' a' k H' F' (Le.trans H L L')

def Draws (P : Program) (esc : List Nat) : Prop :=
  ∀ {ro : Option Nat} {S w h lm B fr a}, HR S w h → FR B S w h fr lm a → B ≤ w.heap.size → ∀ (ops : Array Oper) (id : Nat) {K : Fr → Heap → Prop}, regW P esc ops.toList true fr h K → ∀ {Q : Exit → Act → World → Prop},
    Goal B h S w K (Q .normal) → (Code.region id ops true).wpIn (FW ro) 0 P Q a w

def Kept (B : Nat) (h : Heap) (S : Sim) (w : World) (I : Fr → Heap → Prop) (Q : Exit → Act → World → Prop) : Exit → Act → World → Prop :=
  fun e a' w' => match e with
    | .normal => ∃ S' h' fr' lm', I fr' h' ∧ HR S' w' h' ∧ FR B S' w' h' fr' lm' a' ∧ Le (fun rb => B ≤ rb) h S w h' S' w'
    | e => Q e a' w'

theorem dropL_sub (l : List Nat) : ∀ m : List (Nat × List V), (dropL l m).Sublist m
  | [] => .slnil
  | e :: r => by
    unfold dropL
    split
    · exact (dropL_sub l r).cons e
    · exact (dropL_sub l r).cons_cons e

theorem FR.wipe (F : FR B S w h fr lm a) {l : List Nat} : FR B S w h (fr.wipe l) lm a := by
  have : ∀ (l : List Nat) {fr : Fr}, FR B S w h fr lm a → FR B S w h { fr with tm := wipeT l fr.tm } lm a := by
    intro l
    induction l with
    | nil => exact fun F => F
    | cons t l ih =>
      intro fr F
      refine ih (fr := { fr with tm := fr.tm.set t .undef })
        { size := by simp [F.size], vars := F.vars, inj := F.inj, lb := F.lb, lo := F.lo, nd := F.nd, dfs := F.dfs
          tm := fun i v hv => ?_ }
      rw [List.getElem?_set] at hv
      split at hv
      · split at hv
        · cases hv; exact Rel.undef _
        · cases hv
      · exact F.tm i v hv
  have mrel : ∀ {v : V} {x : Value}, TmRel S w lm v x → TmRel S w lm (mutV v) x := by
    intro v x hv
    unfold mutV
    split
    · rename_i es
      cases (show Rel S w (.sl es [] .full) x from hv) with
      | slnil => exact Rel.srefnil _ _ _ _
      | sl _ _ _ rb o cap xs hes hcap hg _ _ _ =>
        have : cap = 0 := hg
        subst this
        exact Rel.srefnil _ _ _ _
    · exact hv
  have that : ∀ (l : List Nat) {fr : Fr}, FR B S w h fr lm a → FR B S w h { fr with tm := mutT l fr.tm } lm a := by
    intro l
    induction l with
    | nil => exact fun F => F
    | cons t l ih =>
      intro fr F
      unfold mutT
      split
      · refine ih (fr := { fr with tm := fr.tm.set (t - 1000000) (mutV (fr.tm.getD (t - 1000000) .undef)) })
          { size := by simp [F.size], vars := F.vars, inj := F.inj, lb := F.lb, lo := F.lo, nd := F.nd, dfs := F.dfs
            tm := fun i v hv => ?_ }
        rw [List.getElem?_set] at hv
        split at hv
        · split at hv
          · rename_i hi hlt
            cases hv
            refine mrel ?_
            subst hi
            have hlt' : t - 1000000 < fr.tm.length := hlt
            have := F.tm _ _ (List.getElem?_eq_getElem hlt')
            simpa [List.getD, List.getElem?_eq_getElem hlt'] using this
          · cases hv
        · exact F.tm i v hv
      · exact ih F
  have F := that l (this l F)
  exact { size := F.size, tm := F.tm, inj := F.inj, lb := F.lb, lo := F.lo, dfs := F.dfs
          vars := fun e he => F.vars e ((dropL_sub l fr.lc).subset he)
          nd := F.nd.sublist ((dropL_sub l fr.lc).map _) }

theorem loop_sound {ro : Option Nat} {c : Code} (hc : ∀ {S w h lm fr a} {K : Ex → Fr → Heap → Prop} {Q : Exit → Act → World → Prop}, HR S w h → FR B S w h fr lm a → B ≤ w.heap.size → wpA P cf c fr h K → GoalX B h S w K Q → c.wpIn (FW ro) 0 P Q a w)
    {K : Ex → Fr → Heap → Prop} {Q : Exit → Act → World → Prop} (hl : LoopI (fun fr h Q => wpA P cf c fr h Q) K fr h) :
    ∀ {S w lm a}, HR S w h → FR B S w h fr lm a → B ≤ w.heap.size → GoalX B h S w K Q → ∀ (b : Frame) (k : List Item) (cs : List Frame), b.roundOf = ro →
      ∃ e a' w', Q e a' w' ∧ ArrivesIn (Machine.fenced P (FW ro)) P (lone (b.atR a (.code c :: .inLoop c :: k)) cs w) b k cs e a' w' := by
  induction hl with
  | mk fr h I hb hi ih =>
    intro S w lm a H F hB g b k cs hro
    have hk : c.wpIn (FW ro) 0 P (Kept B h S w I Q) a w := by
      refine hc H F hB hb ?_
      intro e S' w' h' fr' lm' a' hk H' F' L'
      cases e with
      | normal => exact ⟨S', h', fr', lm', hk, H', F', L'⟩
      | exit id => exact g (.exit id) S' w' h' fr' lm' a' hk H' F' L'
      | goto l => exact g (.goto l) S' w' h' fr' lm' a' hk H' F' L'
      | ret => exact g .ret S' w' h' fr' lm' a' hk H' F' L'
    have hroom : ∀ n, (FW ro).room n := fun n d hd => by cases hd
    obtain ⟨e, a₁, w₁, hq, harr⟩ := hk b (.inLoop c :: k) cs hro trivial (hroom _)
    cases e with
    | normal =>
      obtain ⟨S', h', fr', lm', hI, H', F', L'⟩ := hq
      obtain ⟨e₂, a₂, w₂, hq₂, harr₂⟩ := ih fr' h' hI H' F' (Nat.le_trans hB L'.size) (g.step H L') b k cs hro
      exact ⟨e₂, a₂, w₂, hq₂, .of_steps (StepsIn.trans harr (.one (fenced_calm (n := 0) trivial (hroom _) rfl) stepR_inLoop)) harr₂⟩
    | exit id => exact ⟨_, a₁, w₁, hq, .pass (x := .inLoop c) rfl (fun _ _ => .inl (by simp)) harr⟩
    | goto l => exact ⟨_, a₁, w₁, hq, .pass (x := .inLoop c) rfl (fun _ _ => .inl (by simp)) harr⟩
    | ret => exact ⟨_, a₁, w₁, hq, .pass (x := .inLoop c) rfl (fun _ _ => .inl (by simp)) harr⟩
    | panic ch => exact ⟨_, a₁, w₁, hq, .pass (x := .inLoop c) rfl (fun _ _ => .inl (by simp)) harr⟩
    | outgrown => exact ⟨_, a₁, w₁, hq, .pass (x := .inLoop c) rfl (fun _ _ => .inl (by simp)) harr⟩

theorem noLp_rel {v : V} {x : Value} (hv : TmRel S w lm v x) : Rel S w (noLp v) x := by
  cases v <;> first | exact Rel.undef _ | exact hv

theorem range_sound {f : Operand} {ps : Array Tmp} {asg body : Code} (H : HR S w h) (F : FR B S w h fr lm a) (hB : B ≤ w.heap.size) {K : Ex → Fr → Heap → Prop} {Q : Exit → Act → World → Prop}
    (hK : rangeW P false (fr.ev f) ps asg body fr h K) (g : GoalX B h S w K Q) : (Code.rangeFunc f ps asg body).wpIn (FW none) 0 P Q a w := by
  have hv := F.ev f
  unfold rangeW at hK
  split at hK
  case h_2 => exact hK.elim
  rename_i k first caps _ hf
  obtain ⟨he, hK⟩ := hK
  rw [hf] at hv
  have hv : Rel S w (.fn (.func k) first caps) (a.eval f) := hv
  generalize hev : a.eval f = fv at hv
  cases hv with
  | fn _ _ _ xs ys h1 h2 hx hy =>
  refine wpIn_rangeFunc ?_
  intro fn _
  -- the mark's block; the record
  obtain ⟨H1, L1⟩ := priv_new H (.deferred (some []))
  have hD : (w.alloc (.deferred (some []))).heap[w.heap.size]? = some (.deferred (some [])) := World.alloc_heap_new w _
  have hsz : (w.alloc (.deferred (some []))).heap.size = w.heap.size + 1 := World.size_alloc _ _
  obtain ⟨rec, hrec0⟩ : ∃ rec : Loop, rec = { state := .ready, pending := none, fn, tmps := a.tmps, params := ps, assign := asg, body, defers := w.heap.size } := ⟨_, rfl⟩
  have hent := run_enterLoop_outer (P := P) (w := w) fn a.tmps ps asg body
  rw [← hrec0] at hent
  have hq : OQRel (S.addCell w.heap.size) (w.alloc (.deferred (some []))) (.loop .ready ps.toList (fr.tm.map noLp) asg body) (.loop rec) := by
    subst hrec0
    refine ⟨_, rfl, rfl, rfl, rfl, ⟨by simp [F.size], fun i v x hv hx => ?_⟩, rfl, rfl⟩
    rw [List.getElem?_map] at hv
    obtain ⟨u, hu, rfl⟩ := Option.map_eq_some_iff.1 hv
    have := F.tm i u hu
    have e : a.tmps.getD i Go.undef = x := by
      rw [Array.getElem?_toList] at hx
      simp [Array.getD_eq_getD_getElem?, hx]
    rw [e] at this
    exact (noLp_rel this).mono L1.toExt
  obtain ⟨H2, L2⟩ := obj_new H1 (.loop rec) _ hq
  rw [hsz] at H2 L2
  have hl : h (w.heap.size + 1) = none := by
    have := H1.none
    rwa [hsz] at this
  have hcall := hK (w.heap.size + 1) hl _ _ (xs ++ [.func (.yield (w.heap.size + 1)) #[] #[]] ++ ys) H2 (by
    refine RelL.append (RelL.append ?_ ?_) ?_
    · exact (show RelL S w first xs from ⟨h1, hx⟩).mono (L1.toExt.trans L2.toExt)
    · exact .cons (.fn _ _ _ [] [] rfl rfl (by simp) (by simp)) .nil
    · exact (show RelL S w caps ys from ⟨h2, hy⟩).mono (L1.toExt.trans L2.toExt))
  have L12 : Le (fun rb => B ≤ rb) h S w (h.upd (w.heap.size + 1) (.obj (.loop .ready ps.toList (fr.tm.map noLp) asg body))) ((S.addCell w.heap.size).addCell (w.heap.size + 1))
      ((w.alloc (.deferred (some []))).alloc (.loop rec)) := (Le.trans H L1 L2).weaken _
  obtain ⟨W2, hW2⟩ : ∃ W2, W2 = (w.alloc (.deferred (some []))).alloc (.loop rec) := ⟨_, rfl⟩
  rw [← hW2] at hcall L12 hent H2 L2
  have hsz2 : W2.heap.size = w.heap.size + 1 + 1 := by rw [hW2, World.size_alloc, hsz]
  have hD2 : W2.heap[w.heap.size]? = some (.deferred (some [])) := by rw [hW2, alloc_get _ _ (by rw [hsz]; omega)]; exact hD
  have hres : (resolve ({ tmps := a.tmps, defers := a.defers } : Act).eval (rangeCall f (w.heap.size + 1)) 0).run P W2 = .ok { target := .fn (.func k) ys.toArray, args := xs.toArray ++ #[Value.func (.yield (w.heap.size + 1)) #[] #[]] } W2 := by
    simp only [resolve, rangeCall]
    rw [show ({ tmps := a.tmps, defers := a.defers } : Act).eval f = a.eval f from rfl, hev]
    simp [Deferred.ofValue, Act.eval]
  have hinv : (invoke (.fn (.func k) ys.toArray) (xs.toArray ++ #[Value.func (.yield (w.heap.size + 1)) #[] #[]])).run P W2 = .ok (.enter k (xs ++ [Value.func (.yield (w.heap.size + 1)) #[] #[]] ++ ys).toArray) W2 := by
    have harr : (xs.toArray ++ #[Value.func (.yield (w.heap.size + 1)) #[] #[]]) ++ ys.toArray = (xs ++ [Value.func (.yield (w.heap.size + 1)) #[] #[]] ++ ys).toArray := by apply Array.ext'; simp
    rw [← harr]
    have := callFunc_enters (P := P) (w := W2) he ((xs.toArray ++ #[Value.func (.yield (w.heap.size + 1)) #[] #[]]) ++ ys.toArray)
    simpa [invoke] using this
  refine ⟨w.heap.size + 1, [{ target := .collected w.heap.size, args := #[] }], W2, { target := .fn (.func k) ys.toArray, args := xs.toArray ++ #[Value.func (.yield (w.heap.size + 1)) #[] #[]] }, W2, k,
    (xs ++ [Value.func (.yield (w.heap.size + 1)) #[] #[]] ++ ys).toArray, W2, hent, hres, fun _ _ => trivial, hinv, FW.deep, ?_⟩
  refine callsIn_wide.2 (hcall.mono ?_)
  clear hcall hres hinv hent
  · rintro e w3 ⟨r, x, h3, S3, rfl, hk, H3, _, L3⟩
    have L123 := Le.trans H L12 (L3.weaken (fun rb => B ≤ rb))
    -- the frame, with the mark
    have F2 : FR B S w h fr lm a := F
    have Fl : FR B S3 w3 h3 fr lm { a with defers := { target := .collected w.heap.size, args := #[] } :: a.defers } := by
      have Fa := ((F.le H L1).le H1 L2).le H2 L3
      refine { size := Fa.size, tm := Fa.tm, vars := Fa.vars, inj := Fa.inj, lb := Fa.lb, lo := Fa.lo, nd := Fa.nd, dfs := ⟨fun d hd => ?_, List.pairwise_cons.2 ⟨fun d hd => ?_, Fa.dfs.2⟩⟩ }
      rotate_left
      · obtain ⟨D, rfl, _, g3, _, _⟩ := F.dfs.1 d hd
        intro e
        injection e with e _
        injection e with e
        have := H.lt g3
        omega
      rcases List.mem_cons.1 hd with rfl | hd
      · have hne : ¬ Blk (h.upd (w.heap.size + 1) (.obj (.loop .ready ps.toList (fr.tm.map noLp) asg body))) w.heap.size := by
          rintro ⟨o, ho, _⟩
          simp only [Heap.upd, show w.heap.size ≠ w.heap.size + 1 by omega, if_false] at ho
          rw [H.none] at ho; cases ho
        have own0 : ((S.addCell w.heap.size).addCell (w.heap.size + 1)).own w.heap.size = some .cell := by simp [Sim.addCell]
        obtain ⟨g1, g2⟩ := L3.priv w.heap.size own0 (fun f => f) hne
        refine ⟨w.heap.size, rfl, hB, g2, fun hb => hne (L3.dom _ (by rw [hsz2]; omega) hb), ?_⟩
        rw [g1]
        exact hD2
      · exact Fa.dfs.1 d hd
    -- the record's end
    unfold loopEnd at hk
    split at hk
    · rename_i ps' tm' asg' body' hrec
      obtain ⟨_, o, ho, r', rfl, _, _, _, _, hst, hpe⟩ := H3.obs _ _ hrec
      obtain ⟨H4, L4⟩ := obj_end H3 hrec (.loop { r' with state := .exhausted })
      have hend := run_endLoop (P := P) ho (by rw [hst]; simp)
      generalize w3.putObj _ _ = W3 at hend H4 L4
      refine ⟨r'.pending, _, hend, ?_⟩
      rw [hpe]
      exact g .normal _ _ _ _ _ _ hk H4 (Fl.le H3 L4) (Le.trans H L123 (L4.weaken _))
    · rename_i c ps' tm' asg' body' hrec
      obtain ⟨_, o, ho, r', rfl, _, _, _, _, hst, hpe⟩ := H3.obs _ _ hrec
      obtain ⟨H4, L4⟩ := obj_end H3 hrec (.loop { r' with state := .exhausted })
      have hend := run_endLoop (P := P) ho (by rw [hst]; simp)
      generalize w3.putObj _ _ = W3 at hend H4 L4
      refine ⟨r'.pending, _, hend, ?_⟩
      rw [hpe]
      split at hk
      · rename_i e hc
        have hgo := g e _ _ _ _ _ _ hk H4 (Fl.le H3 L4) (Le.trans H L123 (L4.weaken _))
        cases c <;> simp only [exOfC, Option.some.injEq] at hc <;> try (cases hc; done)
        · subst hc; exact wpIn_exit hgo
        · subst hc; exact wpIn_goto hgo
        · subst hc; exact wpIn_ret hgo
      · exact hk.elim
    · exact hk.elim

theorem hasLab_iff : ∀ {c : Code} {l : Nat}, hasLab c l = true ↔ ∃ rest, findLabel c l = some rest := by
  intro c
  induction c with
  | seq a b ia ib =>
    intro l
    simp only [hasLab, Bool.or_eq_true, ia, ib, findLabel]
    cases findLabel a l with
    | none => simp
    | some r => simp
  | label k =>
    intro l
    simp only [hasLab, findLabel]
    by_cases e : k = l
    · subst e; simp
    · have : Nat.beq k l = false := by cases hb : Nat.beq k l with | false => rfl | true => exact (e (Nat.eq_of_beq_eq_true hb)).elim
      simp [this, e]
  | _ => intro l; simp [hasLab, findLabel]

theorem stepR_scope {b : Frame} {k : List Item} {cs : List Frame} {c : Code} : step P (lone (b.atR a (.code (.scope c) :: k)) cs w) = .next (lone (b.atR a (.code c :: .inScope c :: k)) cs w) :=
  step_lone_go (by simp [stepG, stepG.exec, Frame.atR])
theorem stepR_inScope {b : Frame} {k : List Item} {cs : List Frame} {c : Code} : step P (lone (b.atR a (.inScope c :: k)) cs w) = .next (lone (b.atR a k) cs w) :=
  step_lone_go (by simp [stepG, stepG.exec, Frame.atR])

def KeptS (B : Nat) (c : Code) (h : Heap) (S : Sim) (w : World) (I : Nat → Fr → Heap → Prop) (Q : Exit → Act → World → Prop) : Exit → Act → World → Prop
  | .goto l, a', w' => (hasLab c l = true ∧ ∃ S' h' fr' lm', I l fr' h' ∧ HR S' w' h' ∧ FR B S' w' h' fr' lm' a' ∧ Le (fun rb => B ≤ rb) h S w h' S' w') ∨ (hasLab c l = false ∧ Q (.goto l) a' w')
  | e, a', w' => Q e a' w'

theorem keptS_of {c : Code} {I : Nat → Fr → Heap → Prop} {K : Ex → Fr → Heap → Prop} {Q : Exit → Act → World → Prop} (g : GoalX B h S w K Q) : GoalX B h S w (scopeK c I K) (KeptS B c h S w I Q) := by
  intro e S' w' h' fr' lm' a' hk H' F' L'
  cases e with
  | normal => exact g .normal S' w' h' fr' lm' a' hk H' F' L'
  | exit id => exact g (.exit id) S' w' h' fr' lm' a' hk H' F' L'
  | ret => exact g .ret S' w' h' fr' lm' a' hk H' F' L'
  | goto l =>
    simp only [scopeK] at hk
    split at hk
    · rename_i hl; exact .inl ⟨hl, S', h', fr', lm', hk, H', F', L'⟩
    · rename_i hl; exact .inr ⟨hl, g (.goto l) S' w' h' fr' lm' a' hk H' F' L'⟩

theorem scope_round {ro : Option Nat} {c : Code} {I : Nat → Fr → Heap → Prop} {Q : Exit → Act → World → Prop} {x : Code} (hx : x.wpIn (FW ro) 0 P (KeptS B c h S w I Q) a w)
    (next : ∀ {S' w' h' fr' lm' a'} (l : Nat) (rest : Code), findLabel c l = some rest → I l fr' h' → HR S' w' h' → FR B S' w' h' fr' lm' a' → Le (fun rb => B ≤ rb) h S w h' S' w' → ∀ (b : Frame) (k : List Item) (cs : List Frame), b.roundOf = ro →
      ∃ e a'' w'', Q e a'' w'' ∧ ArrivesIn (Machine.fenced P (FW ro)) P (lone (b.atR a' (.code rest :: .inScope c :: k)) cs w') b k cs e a'' w'') (b : Frame) (k : List Item) (cs : List Frame) (hro : b.roundOf = ro) :
    ∃ e a' w', Q e a' w' ∧ ArrivesIn (Machine.fenced P (FW ro)) P (lone (b.atR a (.code x :: .inScope c :: k)) cs w) b k cs e a' w' := by
  have hroom : ∀ n, (FW ro).room n := fun n d hd => by cases hd
  obtain ⟨e, a₁, w₁, hq, harr⟩ := hx b (.inScope c :: k) cs hro trivial (hroom _)
  cases e with
  | normal => exact ⟨.normal, a₁, w₁, hq, StepsIn.trans harr (.one (fenced_calm (n := 0) trivial (hroom _) rfl) stepR_inScope)⟩
  | exit id =>
    have hx : exitTo id (.inScope c :: k) = exitTo id k := by simp [exitTo]
    exact ⟨.exit id, a₁, w₁, hq, fun k' hk => harr.1 k' (by rw [hx]; exact hk), fun hr' hk => harr.2 hr' (by rw [hx]; exact hk)⟩
  | goto l =>
    rcases hq with ⟨hl, S', h', fr', lm', hI, H', F', L'⟩ | ⟨hl, hq⟩
    · obtain ⟨rest, hf⟩ := hasLab_iff.1 hl
      have hg : gotoIn l (.inScope c :: k) = some (.code rest :: .inScope c :: k) := by simp [gotoIn, hf]
      obtain ⟨e₂, a₂, w₂, hq₂, harr₂⟩ := next l rest hf hI H' F' L' b k cs hro
      exact ⟨e₂, a₂, w₂, hq₂, .of_steps (harr.1 _ hg) harr₂⟩
    · have hf : findLabel c l = none := by
        cases hf : findLabel c l with
        | none => rfl
        | some r => rw [hasLab_iff.2 ⟨r, hf⟩] at hl; cases hl
      have hx : gotoIn l (.inScope c :: k) = gotoIn l k := by simp [gotoIn, hf]
      exact ⟨.goto l, a₁, w₁, hq, fun k' hk => harr.1 k' (by rw [hx]; exact hk), fun hr' hk => harr.2 hr' (by rw [hx]; exact hk)⟩
  | ret => exact ⟨_, a₁, w₁, hq, harr⟩
  | panic ch => exact ⟨_, a₁, w₁, hq, harr⟩
  | outgrown => exact ⟨_, a₁, w₁, hq, harr⟩

theorem scope_sound {ro : Option Nat} {c : Code} (hc : ∀ (l : Nat) (rest : Code), findLabel c l = some rest → ∀ {S w h lm fr a} {K : Ex → Fr → Heap → Prop} {Q : Exit → Act → World → Prop}, HR S w h → FR B S w h fr lm a → B ≤ w.heap.size →
      wpL P cf c l fr h K → GoalX B h S w K Q → rest.wpIn (FW ro) 0 P Q a w)
    {K : Ex → Fr → Heap → Prop} {Q : Exit → Act → World → Prop} {l : Nat} (hl : ScopeI c (fun l fr h Q => wpL P cf c l fr h Q) K l fr h) :
    ∀ (rest : Code), findLabel c l = some rest → ∀ {S w lm a}, HR S w h → FR B S w h fr lm a → B ≤ w.heap.size → GoalX B h S w K Q → ∀ (b : Frame) (k : List Item) (cs : List Frame), b.roundOf = ro →
      ∃ e a' w', Q e a' w' ∧ ArrivesIn (Machine.fenced P (FW ro)) P (lone (b.atR a (.code rest :: .inScope c :: k)) cs w) b k cs e a' w' := by
  induction hl with
  | mk l fr h I hb hi ih =>
    intro rest hf S w lm a H F hB g b k cs hro
    refine scope_round (I := I) (hc l rest hf H F hB hb (keptS_of g)) ?_ b k cs hro
    intro S' w' h' fr' lm' a' l' rest' hf' hI H' F' L' b k cs hro
    exact ih l' fr' h' hI rest' hf' H' F' (Nat.le_trans hB L'.size) (g.step H L') b k cs hro

theorem wpAL_sound (hd : Draws P cf.esc) {ro : Option Nat} (hro : cf.rnd = ro.isSome) (c : Code) :
    (∀ {S w h lm B fr a} {K : Ex → Fr → Heap → Prop} {Q : Exit → Act → World → Prop}, HR S w h → FR B S w h fr lm a → B ≤ w.heap.size → wpA P cf c fr h K → GoalX B h S w K Q → c.wpIn (FW ro) 0 P Q a w) ∧
    (∀ (l : Nat) (rest : Code), findLabel c l = some rest → ∀ {S w h lm B fr a} {K : Ex → Fr → Heap → Prop} {Q : Exit → Act → World → Prop}, HR S w h → FR B S w h fr lm a → B ≤ w.heap.size → wpL P cf c l fr h K → GoalX B h S w K Q → rest.wpIn (FW ro) 0 P Q a w) := by
  induction c with
  | seq x y ihx ihy =>
    constructor
    · intro S w h lm B fr a K Q H F hB hK g
      unfold wpA at hK
      refine wpIn_seq (ihx.1 H F hB hK ?_)
      intro e S' w' h' fr' lm' a' hk H' F' L'
      cases e with
      | normal => exact ihy.1 H' F' (Nat.le_trans hB L'.size) hk (g.step H L')
      | exit id => exact g (.exit id) S' w' h' fr' lm' a' hk H' F' L'
      | goto l => exact g (.goto l) S' w' h' fr' lm' a' hk H' F' L'
      | ret => exact g .ret S' w' h' fr' lm' a' hk H' F' L'
    · intro l rest hf S w h lm B fr a K Q H F hB hK g
      unfold wpL at hK
      simp only [findLabel] at hf
      split at hK
      · rename_i hl
        obtain ⟨r, hr⟩ := hasLab_iff.1 hl
        rw [hr] at hf
        cases hf
        refine wpIn_seq (ihx.2 l r hr H F hB hK ?_)
        intro e S' w' h' fr' lm' a' hk H' F' L'
        cases e with
        | normal => exact ihy.1 H' F' (Nat.le_trans hB L'.size) hk (g.step H L')
        | exit id => exact g (.exit id) S' w' h' fr' lm' a' hk H' F' L'
        | goto l => exact g (.goto l) S' w' h' fr' lm' a' hk H' F' L'
        | ret => exact g .ret S' w' h' fr' lm' a' hk H' F' L'
      · rename_i hl
        have hn : findLabel x l = none := by
          cases hf' : findLabel x l with
          | none => rfl
          | some r => rw [hasLab_iff.2 ⟨r, hf'⟩] at hl; cases hl
        rw [hn] at hf
        exact ihy.2 l rest hf H F hB hK g
  | label k =>
    refine ⟨fun H F hB hK g => wpIn_label (g .normal _ _ _ _ _ _ (by unfold wpA at hK; exact hK) H F (Le.refl _ _ _ _)), ?_⟩
    intro l rest hf S w h lm B fr a K Q H F hB hK g
    unfold wpL at hK
    simp only [findLabel] at hf
    split at hf
    · cases hf; exact wpIn_skip (g .normal _ _ _ _ _ _ hK H F (Le.refl _ _ _ _))
    · cases hf
  | skip => exact ⟨fun H F hB hK g => wpIn_skip (g .normal _ _ _ _ _ _ (by unfold wpA at hK; exact hK) H F (Le.refl _ _ _ _)), fun l rest hf => by simp [findLabel] at hf⟩
  | exit id => exact ⟨fun H F hB hK g => wpIn_exit (g (.exit id) _ _ _ _ _ _ (by unfold wpA at hK; exact hK) H F (Le.refl _ _ _ _)), fun l rest hf => by simp [findLabel] at hf⟩
  | goto id => exact ⟨fun H F hB hK g => wpIn_goto (g (.goto id) _ _ _ _ _ _ (by unfold wpA at hK; exact hK) H F (Le.refl _ _ _ _)), fun l rest hf => by simp [findLabel] at hf⟩
  | ret => exact ⟨fun H F hB hK g => wpIn_ret (g .ret _ _ _ _ _ _ (by unfold wpA at hK; exact hK) H F (Le.refl _ _ _ _)), fun l rest hf => by simp [findLabel] at hf⟩
  | region id ops draw =>
    refine ⟨?_, fun l rest hf => by simp [findLabel] at hf⟩
    intro S w h lm B fr a K Q H F hB hK g
    unfold wpA at hK
    cases draw with
    | false => exact region_sound H F hB ops id hK (fun S' w' h' fr' lm' a' k H' F' L' => g .normal S' w' h' _ lm' a' k H' F'.wipe L')
    | true => exact hd H F hB ops id hK (fun S' w' h' fr' lm' a' k H' F' L' => g .normal S' w' h' _ lm' a' k H' F'.wipe L')
  | cond c x y ihx ihy =>
    refine ⟨?_, fun l rest hf => by simp [findLabel] at hf⟩
    intro S w h lm B fr a K Q H F hB hK g
    unfold wpA at hK
    have hv := F.ev c
    generalize fr.ev c = v at hK hv
    cases v <;> try exact hK.elim
    rename_i b
    have hv : Rel S w (.bool b) (a.eval c) := hv
    generalize hx : a.eval c = z at hv
    cases hv
    refine wpIn_cond (t := b) hx ?_
    cases b with
    | true => exact ihx.1 H F hB hK g
    | false => exact ihy.1 H F hB hK g
  | block id c ih =>
    refine ⟨?_, fun l rest hf => by simp [findLabel] at hf⟩
    intro S w h lm B fr a K Q H F hB hK g
    unfold wpA at hK
    refine wpIn_block (ih.1 H F hB hK ?_)
    intro e S' w' h' fr' lm' a' hk H' F' L'
    cases e with
    | normal => exact g .normal S' w' h' fr' lm' a' hk H' F' L'
    | exit i =>
      simp only [exOf, Exit.inBlock]
      simp only [blockK] at hk
      split at hk
      · rename_i hi
        rw [if_pos (Nat.eq_of_beq_eq_true hi)]
        exact g .normal S' w' h' fr' lm' a' hk H' F' L'
      · rename_i hi
        rw [if_neg (by rintro rfl; rw [Nat.beq_refl] at hi; cases hi)]
        exact g (.exit i) S' w' h' fr' lm' a' hk H' F' L'
    | goto l => exact g (.goto l) S' w' h' fr' lm' a' hk H' F' L'
    | ret => exact g .ret S' w' h' fr' lm' a' hk H' F' L'
  | loop c ih =>
    refine ⟨?_, fun l rest hf => by simp [findLabel] at hf⟩
    intro S w h lm B fr a K Q H F hB hK g b k cs hb hf hroom
    unfold wpA at hK
    obtain ⟨e, a', w', hq, harr⟩ := loop_sound (B := B) (ro := ro) (fun {S w h lm fr a K Q} => ih.1) hK H F hB g b k cs hb
    exact ⟨e, a', w', hq, .of_steps (.one (fenced_calm (n := 0) hf hroom rfl) stepR_loop) harr⟩
  | scope c ih =>
    refine ⟨?_, fun l rest hf => by simp [findLabel] at hf⟩
    intro S w h lm B fr a K Q H F hB hK g b k cs hb hf hroom
    unfold wpA at hK
    obtain ⟨e, a', w', hq, harr⟩ := scope_round (ih.1 H F hB hK (keptS_of g)) (fun {S' w' h' fr' lm' a'} l' rest' hf' hI H' F' L' b k cs hro =>
      scope_sound (fun l rest hf {S w h lm fr a K Q} => ih.2 l rest hf) hI rest' hf' H' F' (Nat.le_trans hB L'.size) (g.step H L') b k cs hro) b k cs hb
    exact ⟨e, a', w', hq, .of_steps (.one (fenced_calm (n := 0) hf hroom rfl) stepR_scope) harr⟩
  | rangeFunc f ps zs b _ _ =>
    refine ⟨?_, fun l rest hf => by simp [findLabel] at hf⟩
    intro S w h lm B fr a K Q H F hB hK g
    unfold wpA at hK
    cases ro with
    | none => rw [hro] at hK; exact range_sound H F hB hK g
    | some l => rw [hro] at hK; unfold rangeW at hK; exact hK.elim
  | refuse s => exact ⟨fun _ _ _ hK _ => by unfold wpA at hK; exact hK.elim, fun l rest hf => by simp [findLabel] at hf⟩

theorem wpA_sound (hd : Draws P cf.esc) {ro : Option Nat} (hro : cf.rnd = ro.isSome) (c : Code) : ∀ {S w h lm B fr a} {K : Ex → Fr → Heap → Prop} {Q : Exit → Act → World → Prop}, HR S w h → FR B S w h fr lm a → B ≤ w.heap.size → wpA P cf c fr h K → GoalX B h S w K Q → c.wpIn (FW ro) 0 P Q a w :=
  (wpAL_sound hd hro c).1

def resRun (tmps : Array Value) : ResultVar → Sem Value
  | .tmp t => pure (tmps.getD t Go.undef)
  | .cell b t => do loadVar t (← asAddr (tmps.getD b Go.undef))

theorem result_sound {m : Nat} (H : HR S w h) (F : FR B S w h fr lm a) (r : ResultVar) {K : V → Prop} (hK : (resultV P m fr h r).need K) :
    ∃ v x, K v ∧ Rel S w v x ∧ (resRun a.tmps r).run P w = .ok x w := by
  cases r with
  | tmp t =>
    have hv := F.ev (.tmp t)
    simp only [Fr.ev, Act.eval] at hv
    simp only [resultV] at hK
    split at hK
    · exact hK.elim
    · rename_i b v hb
      rw [hb] at hv
      split at hK
      · exact hK.elim
      · exact hK.elim
      · rename_i h1 h2
        have hv1 := hv.1 hK.1
        refine ⟨_, _, hK.2, ?_, rfl⟩
        cases v <;> first | exact hv1 | exact (h1 _ _ rfl).elim | exact (h2 _ _ rfl).elim
    · rename_i h1 h2
      refine ⟨_, _, hK, ?_, rfl⟩
      generalize fr.tm.getD t .undef = v at h1 h2 hv
      cases v <;> first | exact hv | exact (h1 _ _ rfl).elim | exact (h2 _ _ rfl).elim
  | cell b t =>
    have hv := F.ev (.tmp b)
    simp only [Fr.ev, Act.eval] at hv
    simp only [resultV] at hK
    have key : ∀ u p, fr.tm.getD b .undef = u → a.tmps.getD b Go.undef = .pointer (some p) → (loadQ P m fr h t u).need K → ∃ v x, K v ∧ Rel S w v x ∧ ((do loadVar t (← asAddr (a.tmps.getD b Go.undef)) : Sem Value)).run P w = .ok x w := by
      intro u p hu hp hq
      rw [hu] at hv
      have := load_sound (P := P) H F m t hv
      cases hl : loadQ P m fr h t u with
      | ok v => rw [hl] at this; exact this.elim
      | bad => rw [hl] at hq; exact hq.elim
      | chk c v =>
        rw [hl] at this hq
        obtain ⟨x, hx, hr⟩ := this hq.1
        rw [hp] at hx ⊢
        refine ⟨v, x, hq.2, hr, ?_⟩
        simpa [Instr.loadAt, Instr.sureAddr, asAddr] using hx
    split at hK
    · rename_i d off e
      have hv' := hv
      rw [e] at hv'
      obtain ⟨rb, _, hx⟩ := hv'
      exact key _ _ e hx hK
    · rename_i l off e
      have hv' : Rel S w (.ptr l off) (a.tmps.getD b Go.undef) := by rw [e] at hv; exact hv
      generalize hx : a.tmps.getD b Go.undef = x at hv'
      cases hv'
      exact key _ _ e hx hK
    · exact hK.elim

theorem results_sound {m : Nat} (H : HR S w h) (F : FR B S w h fr lm a) : ∀ (rs : List ResultVar) {K : List V → Prop}, resultsW P m fr h rs K →
    ∃ vs xs, K vs ∧ RelL S w vs xs ∧ (rs.mapM (resRun a.tmps)).run P w = .ok xs w
  | [], K, hK => ⟨[], [], hK, .nil, rfl⟩
  | r :: rs, K, hK => by
    obtain ⟨v, x, hK, hr, hrun⟩ := result_sound H F r hK
    obtain ⟨vs, xs, hK, hrs, hruns⟩ := results_sound H F rs hK
    refine ⟨v :: vs, x :: xs, hK, .cons hr hrs, ?_⟩
    rw [List.mapM_cons]
    simp only [Sem.run_bind, hrun, Result.andThen_ok, hruns, Sem.run_pure]

def resV : List V → V
  | [v] => v
  | vs => .tup vs

theorem answer_sound {m : Nat} (H : HR S w h) (F : FR B S w h fr lm a) (fn : Func) {K : V → Prop} (hK : answerW P m fn fr h K) : ∃ v x, K v ∧ Rel S w v x ∧ (results fn a.tmps).run P w = .ok x w := by
  obtain ⟨vs, xs, hK, hr, hrun⟩ := results_sound H F fn.results.toList hK
  have h2 : (results fn a.tmps).run P w = .ok (if h : xs.toArray.size = 1 then xs.toArray[0] else .tuple xs.toArray) w := by
    have e : results fn a.tmps = (do let vs ← fn.results.mapM (resRun a.tmps); pure (if h : vs.size = 1 then vs[0] else .tuple vs) : Sem Value) := by
      unfold results
      congr 1
    rw [e, Array.mapM_eq_mapM_toList]
    simp only [Sem.run_bind, map_eq_pure_bind, hrun, Result.andThen_ok, Sem.run_pure]
  have hK' : K (resV vs) := by
    revert hK
    match vs with
    | [] => exact id
    | [v] => exact id
    | _ :: _ :: _ => exact id
  refine ⟨_, _, hK', ?_, h2⟩
  obtain ⟨hl, hr⟩ := hr
  match vs, xs, hl, hr with
  | [], [], _, _ => exact Rel.tup [] [] rfl (by simp)
  | [v], [x], _, hr => exact hr 0 v x rfl rfl
  | u :: v :: vs, x :: y :: xs, hl, hr => exact Rel.tup _ _ hl hr

theorem Le.narrow {h' : Heap} {S' : Sim} {w' : World} (H : HR S w h) (L : Le (fun rb => w.heap.size ≤ rb) h S w h' S' w') : Le (fun _ => False) h S w h' S' w' :=
  { toExt := L.toExt, os := L.os, tape := L.tape, output := L.output, size := L.size, un := L.un, dom := L.dom, all := L.all, stays := L.stays
    priv := fun rb e _ hh => L.priv rb e (by have := H.lt e; omega) hh }

theorem frame0_rel (fn : Func) (args : List V) (xs : List Value) (hr : RelL S w args xs) (hn : args.length ≤ fn.ntmps) :
    FR w.heap.size S w h (frame0 fn args) (fun _ => none) { tmps := xs.toArray ++ Array.replicate (fn.ntmps - xs.toArray.size) Go.undef, defers := [] } :=
  { size := by simp [frame0, hr.1]
    tm := fun i v hv => by
      simp only [frame0] at hv
      by_cases hi : i < args.length
      · rw [List.getElem?_append_left hi] at hv
        have hx : i < xs.length := by rw [hr.1]; exact hi
        have e : (xs.toArray ++ Array.replicate (fn.ntmps - xs.toArray.size) Go.undef).getD i Go.undef = xs[i] := by
          simp [Array.getElem?_append, hx]
        simp only
        rw [e]
        exact .of_rel (hr.2 i v _ hv (List.getElem?_eq_getElem hx))
      · rw [List.getElem?_append_right (by omega), List.getElem?_replicate] at hv
        split at hv
        · cases hv; exact Rel.undef _
        · cases hv
    vars := fun _ he => by simp [frame0] at he
    inj := fun _ _ _ e => by cases e
    lb := fun _ _ e => by cases e
    lo := fun _ _ e => by cases e
    nd := by simp [frame0]
    dfs := ⟨(fun d hd => by cases hd), List.Pairwise.nil⟩ }

theorem FR.mark {D : Nat} {ds : List Deferred} (F : FR B S w h fr lm { a with defers := { target := .collected D, args := #[] } :: ds }) : FR B S (w.putObj D (.deferred none)) h fr lm { a with defers := ds } := by
  obtain ⟨D', h1, h2, h3, h4, h5⟩ := F.dfs.1 { target := .collected D, args := #[] } (by simp)
  injection h1 with h1 _
  injection h1 with h1
  subst h1
  have E := Ext_put (w := w) h3 (.deferred none)
  refine { size := F.size, tm := fun i v hv => (F.tm i v hv).mono E, vars := fun e he => ?_, inj := F.inj, lb := F.lb, lo := F.lo, nd := F.nd, dfs := ⟨fun d hd => ?_, (List.pairwise_cons.1 F.dfs.2).2⟩ }
  · obtain ⟨rb, g1, ⟨g2, xs, hb, hr, ho⟩, g3⟩ := F.vars e he
    refine ⟨rb, g1, ⟨g2, xs, hb.put _ ?_, hr.mono E, ho⟩, g3⟩
    rintro rfl
    obtain ⟨_, _, hb, _⟩ := hb
    rw [h5] at hb; cases hb
  · obtain ⟨D2, g1, g2, g3, g4, g5⟩ := F.dfs.1 d (by simp [hd])
    have hne := (List.pairwise_cons.1 F.dfs.2).1 d hd
    refine ⟨D2, g1, g2, g3, g4, ?_⟩
    rw [put_get]
    · exact g5
    · rintro rfl; exact hne g1.symm

theorem leaves_sound (fn : Func) {R : Ending → World → Prop} : ∀ (ds : List Deferred) {w : World}, HR S w h → FR B S w h fr lm { a with defers := ds } →
    (∀ w2, HR S w2 h → FR B S w2 h fr lm { a with defers := [] } → Le (fun rb => B ≤ rb) h S w h S w2 → ∃ v, (results fn a.tmps).run P w2 = .ok v w2 ∧ R (.returned v) w2) → LeavesInM (FW none) 0 P fn a.tmps R ds .returning w
  | [], w, H, F, g => g w H F (Le.refl _ _ _ _)
  | d :: ds, w, H, F, g => by
    obtain ⟨D, rfl, h2, h3, h4, h5⟩ := F.dfs.1 d (by simp)
    have Lt : Le (fun rb => B ≤ rb) h S w h S (w.putObj D (.deferred none)) := turn_le h3 _ (.inr h2) (fun _ hk => hk) fun _ hk => hk
    refine ⟨by simp, .inl ⟨D, _, rfl, run_takeDeferred h5, leaves_sound fn ds (turn_block H h3 _ fun k ob hk => ?_) F.mark fun w2 H2 F2 L2 => g w2 H2 F2 (Le.trans H Lt L2)⟩⟩
    by_cases e : k = D
    · subst e
      rcases Bool.eq_false_or_eq_true ob.blk with hb | hb
      · exact (h4 ⟨_, hk, hb⟩).elim
      · exact .inr (.inl ⟨hb, hk⟩)
    · exact .inl ⟨e, hk⟩

theorem call_sound (hd : Draws P cf.esc) (hr0 : cf.rnd = false) {f : FuncId} {fn : Func} (hf : P.funcs[f]? = some fn) {args : List V} (hn : args.length ≤ fn.ntmps) {h : Heap} {K : V → Heap → Prop} (hK : bodyW P cf fn args h K) : CallW P f args h K := by
  intro S w xs H hr
  unfold bodyW at hK
  split at hK
  · exact hK.elim
  rename_i c hc
  refine callsIn_wide.1 (callsIn_of_wp_marks (F := FW none) (n := 0) hf hc trivial (wpA_sound hd (ro := none) hr0 c H (frame0_rel fn args xs hr hn) (Nat.le_refl _) hK ?_))
  intro e S' w' h' fr' lm' a' hk H' F' L'
  have fin : answerW P (rmode cf.esc) fn fr' h' (fun r => K r h') → LeavesInM (FW none) 0 P fn a'.tmps (fun e w' => ∃ r x h'' S'', e = .returned x ∧ K r h'' ∧ HR S'' w' h'' ∧ Rel S'' w' r x ∧ Le (fun _ => False) h S w h'' S'' w') a'.defers .returning w' := fun ha =>
    leaves_sound fn a'.defers H' F' fun w2 H2 F2 L2 => by
      obtain ⟨v, x, hv, hrel, hrun⟩ := answer_sound H2 F2 fn ha
      exact ⟨x, hrun, v, x, h', S', rfl, hv, H2, hrel, (Le.trans H L' L2).narrow H⟩
  cases e with
  | normal => exact fin hk
  | ret => exact fin hk
  | exit id => exact hk.elim
  | goto l => exact hk.elim

def Heap.Sub (h' h : Heap) : Prop := ∀ l o, h' l = some o → h l = some o

theorem CallW.forget {f : FuncId} {args : List V} {h : Heap} {K K' : V → Heap → Prop} (c : CallW P f args h K) (m : ∀ r h', K r h' → ∃ h'', h''.Sub h' ∧ K' r h'') : CallW P f args h K' :=
  fun S w xs H R => (c S w xs H R).mono fun _ _ ⟨r, x, h', S', e, k, H', R', L⟩ => by
    obtain ⟨h'', hs, k'⟩ := m r h' k
    exact ⟨r, x, h'', S', e, k', ⟨fun l o hl => H'.obs l o (hs l o hl), H'.fresh⟩, R',
      { toExt := L.toExt, os := L.os, tape := L.tape, output := L.output, size := L.size, un := L.un, priv := L.priv, stays := L.stays
        all := fun l hl e => by
          have := L.all l hl e
          cases ho : h'' l with
          | none => rfl
          | some o => rw [hs _ _ ho] at this; cases this
        dom := fun l hl ⟨o, ho, hb⟩ => L.dom l hl ⟨o, hs _ _ ho, hb⟩ }⟩
end
end Jb
end
