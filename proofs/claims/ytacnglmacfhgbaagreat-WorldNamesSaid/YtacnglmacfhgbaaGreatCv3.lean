/-
  An evaluator over abstract values, of use to every statement of this seat: aggregates, append, copy and conversions are as the machine does them. No condition.
-/
import Derived.Test.YtacnglmacfhgbaaGreatCv2
import Derived.IntWalk
import Derived.Laws.MakeOwn

/- Soundness: aggregates, and what makes one object of its operands alone. -/
set_option linter.unusedVariables false
set_option linter.unusedSimpArgs false
namespace Cv
open Go

theorem fold_upd {α : Type} (off : Nat) : ∀ (l : List α) (k : Nat) (cs : Array α), (l.zipIdx k).foldl (fun (cs : Array α) (p : α × Nat) => cs.setIfInBounds (off + p.2) p.1) cs = (upd cs.toList (off + k) l).toArray
  | [], k, cs => by simp [upd_nil]
  | c :: l, k, cs => by
    simp only [List.zipIdx_cons, List.foldl_cons]
    rw [fold_upd off l (k + 1), upd_cons]
    congr 1
    rw [Array.toList_setIfInBounds]
    rfl

/-- pairs of a place and a value -/
def PL (ρ : Ren) (w : World) (ps : List (Nat × AVal)) (qs : List (Nat × Value)) : Prop := ps.length = qs.length ∧ ∀ (i : Nat) (p : Nat × AVal) (q : Nat × Value), ps[i]? = some p → qs[i]? = some q → p.1 = q.1 ∧ V ρ w p.2 q.2

theorem fillAt_ok {ρ : Ren} {w : World} (place : Nat → Option (Nat × Nat)) : ∀ (ps : List (Nat × AVal)) (xs l : List AVal) (cs : List Value) (qs : List (Nat × Value)), fillAt place xs ps = some l → VL ρ w xs cs → PL ρ w ps qs →
    ∃ ds, Instr.fill place cs.toArray qs = some ds.toArray ∧ VL ρ w l ds
  | [], xs, l, cs, qs, e, hx, hp => by
    cases qs with
    | nil => simp [fillAt] at e; subst e; exact ⟨cs, rfl, hx⟩
    | cons q qs => have := hp.1; simp at this
  | (i, v) :: ps, xs, l, cs, qs, e, hx, hp => by
    cases qs with
    | nil => have := hp.1; simp at this
    | cons q qs =>
      obtain ⟨j, c⟩ := q
      have h0 := hp.2 0 (i, v) (j, c) rfl rfl
      obtain ⟨hij, hv⟩ := h0
      simp only at hij
      subst hij
      have hp' : PL ρ w ps qs := ⟨by have := hp.1; simpa using this, fun k p q hk hq => hp.2 (k + 1) p q (by simpa using hk) (by simpa using hq)⟩
      simp only [fillAt] at e
      split at e
      · cases e
      · rename_i off size hpl
        split at e
        · rename_i h1 h2
          have h1 := beq_eq' h1
          have h2 : off + v.cells.length ≤ xs.length := ble_le h2
          have hc := hv.cells
          have hcl : c.cells.size = v.cells.length := by rw [hc.1]; simp
          have hu := hx.upd hc off h2
          obtain ⟨ds, r1, r2⟩ := fillAt_ok place ps _ _ _ qs e hu hp'
          refine ⟨ds, ?_, r2⟩
          have hxl := hx.1
          have hlen : ¬ (off + c.cells.size > cs.length) := by omega
          simp only [Instr.fill, hpl]
          rw [if_neg (by simp [hcl, h1]; omega)]
          rw [← r1]
          congr 1
          have hfold := fold_upd off c.cells.toList 0 cs.toArray
          have e1 : Array.foldl (fun (cs : Array Value) (p : Value × Nat) => cs.setIfInBounds (off + p.2) p.1) cs.toArray c.cells.zipIdx = (c.cells.toList.zipIdx 0).foldl (fun (cs : Array Value) (p : Value × Nat) => cs.setIfInBounds (off + p.2) p.1) cs.toArray := by
            rw [← Array.foldl_toList, Array.toList_zipIdx]
          exact e1.trans hfold
        · cases e

theorem pairs_ok {env : Tree AVal} {ps : List (Nat × Operand)} {l : List (Nat × AVal)} (e : pairs env ps = some l) {ρ : Ren} {w : World} {evf : Operand → Value} (hE : ∀ p ∈ ps, ∀ a, ev env p.2 = some a → V ρ w a (evf p.2)) :
    PL ρ w l (ps.map fun p => (p.1, evf p.2)) := by
  have := omap_some e
  refine ⟨by simp [this.1], fun i p q hp hq => ?_⟩
  obtain ⟨x, h1, h2⟩ := this.2 i p hp
  rw [List.getElem?_map, h1] at hq
  simp at hq
  subst hq
  split at h2
  · rename_i v hv
    cases h2
    exact ⟨rfl, hE x (List.mem_of_getElem? h1) _ hv⟩
  · cases h2

section
variable {T : Tab} {P : Program} (hT : TabOk T P) {ρ : Ren} {h : Heap} {w : World}
include hT

omit hT in
theorem run_mapM_list {α β : Type} (f : α → Sem β) (g : α → β) : ∀ (l : List α), (∀ x ∈ l, (f x).run P w = .ok (g x) w) → (l.mapM f).run P w = .ok (l.map g) w
  | [], _ => by simp
  | a :: l, hl => by
    have ih := run_mapM_list f g l (fun x hx => hl x (by simp [hx]))
    simp [List.mapM_cons, hl a (by simp), ih]

omit hT in
theorem run_mapM {α β : Type} (f : α → Sem β) (g : α → β) (a : Array α) (hl : ∀ x ∈ a.toList, (f x).run P w = .ok (g x) w) : (a.mapM f).run P w = .ok (a.map g) w := by
  obtain ⟨l⟩ := a
  rw [List.mapM_toArray]
  simp [run_mapM_list f g l (by simpa using hl)]

theorem opBuild_ok {t : TypeId} {ps : List (Nat × AVal)} {v : AVal} (e : opBuild T t ps = some v) {qs : List (Nat × Value)} (hp : PL ρ w ps qs) : ∃ d, (Instr.build t qs.toArray).run P w = .ok d w ∧ V ρ w v d := by
  unfold opBuild at e
  split at e
  · rename_i z hz
    obtain ⟨i, c, hi, hic, hrun, hv⟩ := zero_ok hT hz w
    have hvc := (hv ρ w).cells
    split at e
    · rename_i fs hu
      split at e
      · rename_i pl hpl
        split at e
        · rename_i l hl
          cases e
          have hpl' := omap_some hpl
          obtain ⟨ds, r1, r2⟩ := fillAt_ok (ρ := ρ) (w := w) _ ps _ _ c.cells.toList qs hl hvc hp
          refine ⟨.agg ds.toArray, ?_, .agg _ _ r2.1 r2.2⟩
          have hm := run_mapM (P := P) (w := w) (fun f : Field => do pure (f.offset, ← Go.sizeOf f.type)) (fun f => ((T.size f.type).map fun s => (f.offset, s)).getD (0, 0)) fs (fun x hx => by
            obtain ⟨k, hk⟩ := List.mem_iff_getElem?.1 hx
            have hlt : k < pl.length := by
              rw [hpl'.1]
              rcases Nat.lt_or_ge k fs.toList.length with hl | hl
              · exact hl
              · rw [List.getElem?_eq_none hl] at hk; cases hk
            obtain ⟨y, h1, h2⟩ := hpl'.2 k pl[k] (by simp [hlt])
            rw [hk] at h1; cases h1
            split at h2
            · rename_i s hs
              simp [size_ok hT hs, hs]
            · cases h2)
          have hplaces : ∀ k, (fs.map (fun f : Field => ((T.size f.type).map fun s => (f.offset, s)).getD (0, 0)))[k]? = nth pl k := fun k => by
            rw [nth_eq, Array.getElem?_map]
            cases hk : pl[k]? with
            | none =>
              have : fs[k]? = none := by
                have hge : pl.length ≤ k := by
                  rcases Nat.lt_or_ge k pl.length with hl | hl
                  · rw [List.getElem?_eq_getElem hl] at hk; cases hk
                  · exact hl
                rw [hpl'.1] at hge
                exact Array.getElem?_eq_none (by simpa using hge)
              simp [this]
            | some p =>
              obtain ⟨y, h1, h2⟩ := hpl'.2 k p hk
              have h1' : fs[k]? = some y := by simpa using h1
              rw [h1']
              split at h2
              · rename_i s hs; cases h2; simp [hs]
              · cases h2
          have hfe : (fun x => (fs.map (fun f : Field => ((T.size f.type).map fun s => (f.offset, s)).getD (0, 0)))[x]?) = nth pl := funext hplaces
          simp only [Instr.build, Sem.run_bind, hrun, Result.andThen_ok, run_underlying (und_ok hT hu), hm]
          rw [hfe]
          have : c.cells = c.cells.toList.toArray := by simp
          rw [this, r1]
          rfl
        · cases e
      · cases e
    · rename_i n el hu
      split at e
      · rename_i s hs
        split at e
        · rename_i l hl
          cases e
          obtain ⟨ds, r1, r2⟩ := fillAt_ok (ρ := ρ) (w := w) _ ps _ _ c.cells.toList qs hl hvc hp
          refine ⟨.agg ds.toArray, ?_, .agg _ _ r2.1 r2.2⟩
          simp only [Instr.build, Sem.run_bind, hrun, Result.andThen_ok, run_underlying (und_ok hT hu), size_ok hT hs]
          have : c.cells = c.cells.toList.toArray := by simp
          rw [this]
          have r1' : Instr.fill (fun i => some (i * s, s)) c.cells.toList.toArray qs = some ds.toArray := r1
          rw [r1']
          rfl
        · cases e
      · cases e
    · cases e
  · cases e

omit hT in
theorem alloc_run (c : Value) (el : TypeId) : (newVar el c).run P w = .ok ⟨w.heap.size, 0, none⟩ (w.alloc (.cells c.cells el)) := by
  simp [newVar, newRow]

omit hT in
theorem rep_range {z : List Value} (hz : 0 < z.length) : ∀ n, ((Array.range (n * z.length)).map (fun i => z.toArray[i % z.toArray.size]!)).toList = rep n z
  | 0 => by simp [rep]
  | n + 1 => by
    have ih := rep_range hz n
    apply List.ext_getElem?
    intro i
    have hl : (rep (n + 1) z).length = (n + 1) * z.length := by rw [rep_length]
    have general : ∀ (m i : Nat), (rep m z)[i]? = if i < m * z.length then z[i % z.length]? else none := by
      intro m
      induction m with
      | zero => intro i; simp [rep]
      | succ m ihm =>
        intro i
        simp only [rep]
        rcases Nat.lt_or_ge i z.length with hi | hi
        · rw [List.getElem?_append_left hi, if_pos (by rw [Nat.add_mul]; omega), Nat.mod_eq_of_lt hi]
        · rw [List.getElem?_append_right hi, ihm]
          have e1 : (i - z.length) % z.length = i % z.length := by
            rw [← Nat.mod_eq_sub_mod hi]
          rw [e1]
          have e2 : (i - z.length < m * z.length) ↔ (i < (m + 1) * z.length) := by rw [Nat.add_mul]; omega
          by_cases hc : i < (m + 1) * z.length
          · rw [if_pos hc, if_pos (e2.2 hc)]
          · rw [if_neg hc, if_neg (fun h => hc (e2.1 h))]
    rw [general]
    simp only [Array.toList_map, List.getElem?_map, Array.toList_range]
    by_cases hc : i < (n + 1) * z.length
    · rw [if_pos hc]
      have hm : i % z.length < z.length := Nat.mod_lt _ hz
      simp [hc, hm]
    · rw [if_neg hc]
      simp; omega

theorem mkOp_ok {env : Tree AVal} {rid : Nat} {op : Op} {v : AVal} {ob : AObj} (e : mkOp T env rid op = some (v, ob)) {evf : Operand → Value} (hE : ∀ x ∈ op.operands, ∀ a, ev env x = some a → V ρ w a (evf x)) (o : Oper) (ho : o.op = op) :
    ∃ c d, OR ρ w ob c ∧ (execOp evf o).run P w = .ok (.value d) (w.alloc c) ∧ ∀ ρ' : Ren, (∀ i b, ρ i = some b → ρ' i = some b) → ρ' rid = some w.heap.size → V ρ' (w.alloc c) v d := by
  have key : ∀ (t : TypeId) (z : AVal) (zc : Value), opBox rid t z = some (v, ob) → V ρ w z zc → ∃ c d, OR ρ w ob c ∧ (do pure (.value (.pointer (some (← newVar t zc)))) : Sem Next).run P w = .ok (.value d) (w.alloc c) ∧ ∀ ρ' : Ren, (∀ i b, ρ i = some b → ρ' i = some b) → ρ' rid = some w.heap.size → V ρ' (w.alloc c) v d := by
    intro t z zc hb hz
    unfold opBox at hb
    split at hb
    · cases hb
      have hc := hz.cells
      refine ⟨.cells zc.cells.toList.toArray t (0, 0), .pointer (some ⟨w.heap.size, 0, none⟩), ?_, ?_, fun ρ' _ hr => .ptr _ hr⟩
      · exact OR.mk_cells (fun _ => hc.1) (Nat.le_of_eq hc.1) (by rw [hc.1, List.take_of_length_le (Nat.le_refl _)]; exact hc) (by simp)
      · simp [alloc_run]
    · cases hb
  unfold mkOp at e
  split at e
  · rename_i t
    split at e
    · rename_i z hz
      obtain ⟨i, zc, hi, hic, hrun, hv⟩ := zero_ok hT hz w
      obtain ⟨c, d, h1, h2, h3⟩ := key t z zc e (hv ρ w)
      refine ⟨c, d, h1, ?_, h3⟩
      rw [← h2]
      simp only [execOp, ho, Instr.alloc, Sem.run_bind, hrun, Result.andThen_ok, Sem.run_pure]
      cases (newVar t zc).run P w <;> rfl
    · cases e
  · rename_i t x
    split at e
    · rename_i z hz
      obtain ⟨c, d, h1, h2, h3⟩ := key t z (evf x) e (hE x (by simp [Op.operands]) _ hz)
      refine ⟨c, d, h1, ?_, h3⟩
      rw [← h2]
      simp only [execOp, ho, Instr.box, Sem.run_bind, Result.andThen_ok, Sem.run_pure]
      cases (newVar t (evf x)).run P w <;> rfl
    · cases e
  · rename_i t n ps
    split at e
    · rename_i l hl
      have hPL := pairs_ok hl (ρ := ρ) (w := w) (evf := evf) (fun p hp a ha => hE p.2 (by
        simp only [Op.operands]
        simp
        exact ⟨p.1, by simpa using hp⟩) a ha)
      unfold opBuildSlice at e
      split at e
      · rename_i el hu
        split at e
        · rename_i s z hs hz
          split at e
          · rename_i h1 h2 h3
            have h1 := beq_eq' h1
            have h2 : 0 < s := blt_lt h2
            have h3 : n * s ≤ 16777216 := ble_le h3
            split at e
            · rename_i cl hfill
              split at e
              · rename_i hsc
                cases e
                obtain ⟨i, zc, hi, hic, hrun, hv⟩ := zero_ok hT hz w
                have hvc := (hv ρ w).cells
                have hzl : zc.cells.toList.length = s := by rw [← hvc.1, h1]
                obtain ⟨ds, r1, r2⟩ := fillAt_ok (ρ := ρ) (w := w) _ l _ _ (rep n zc.cells.toList) (ps.toList.map fun p => (p.1, evf p.2)) hfill (hvc.rep n) hPL
                refine ⟨.cells ds.toArray el (0, 0), .slice (some ⟨w.heap.size, 0, none⟩) n n, ?_, ?_, fun ρ' _ hr => .sl _ _ _ _ hr (Nat.le_refl _) rfl⟩
                · exact OR.mk_cells (fun _ => r2.1) (Nat.le_of_eq r2.1) (by rw [r2.1, List.take_of_length_le (Nat.le_refl _)]; exact r2) (by simp)
                · have hcells : (Array.range (n * s)).map (fun i => zc.cells[i % zc.cells.size]!) = (rep n zc.cells.toList).toArray := by
                    apply Array.ext'
                    have := rep_range (z := zc.cells.toList) (by omega) n
                    rw [hzl] at this
                    simpa using this
                  have r1' : Instr.fill (fun i => some (i * s, s)) (rep n zc.cells.toList).toArray (ps.toList.map fun p => (p.1, evf p.2)) = some ds.toArray := r1
                  have hps : (ps.map fun p => (p.1, evf p.2)).toList = ps.toList.map fun p => (p.1, evf p.2) := by simp
                  have hn1 : ¬ (n * s > 16777216) := by omega
                  have hA : (execOp evf o).run P w = ((Instr.buildSlice t n (ps.map fun p => (p.1, evf p.2))).run P w).andThen fun a w' => .ok (.value a) w' := by
                    simp only [execOp, ho, Sem.run_bind, Sem.run_pure]
                  rw [hA]
                  by_cases hn0 : n * s = 0
                  · have hn0' : n = 0 := by
                      rcases Nat.mul_eq_zero.1 hn0 with h | h
                      · exact h
                      · omega
                    subst hn0'
                    have hr0 : rep 0 zc.cells.toList = [] := rfl
                    rw [hr0] at r1'
                    simp only [Instr.buildSlice, Sem.run_bind, run_underlying (und_ok hT hu), Result.andThen_ok, size_ok hT hs, Nat.zero_mul, hps]
                    simp [Array.range_zero', r1', newRow]
                  · simp only [Instr.buildSlice, Sem.run_bind, run_underlying (und_ok hT hu), Result.andThen_ok, size_ok hT hs]
                    rw [if_neg (by show ¬ (n * s > 2 ^ 24); omega), if_neg hn0]
                    simp only [Sem.run_bind, hrun, Result.andThen_ok, Sem.run_pure, hps]
                    rw [hcells, r1']
                    simp [newRow]
              · cases e
            · cases e
          · cases e
        · cases e
      · cases e
    · cases e
  · rename_i t r
    split at e
    · cases e
      refine ⟨.map #[] 0, .map (some w.heap.size), ?_, by simp [execOp, ho, Instr.makeMap], fun ρ' _ hr => .mp hr⟩
      exact .map [] 0 [] rfl (by simp)
    · rename_i x
      split at e
      · rename_i k m kk nn hu hx
        cases e
        have hvx := hE x (by simp [Op.operands]) _ hx
        refine ⟨.map #[] 0, .map (some w.heap.size), ?_, ?_, fun ρ' _ hr => .mp hr⟩
        · exact .map [] 0 [] rfl (by simp)
        · generalize hev : evf x = c at hvx
          cases hvx
          simp [execOp, ho, Instr.makeMap, hev, run_underlying (und_ok hT hu), asInt, asIntOf]
      · cases e
  · rename_i t l c
    split at e
    · rename_i a b ha hb
      have va := hE l (by simp [Op.operands]) _ ha
      have vb := hE c (by simp [Op.operands]) _ hb
      generalize hel : evf l = cl at va
      generalize hec : evf c = cc at vb
      unfold opMakeSlice at e
      split at e
      · rename_i el k1 n k2 m hu
        cases va; cases vb
        split at e
        · rename_i s z by_ hs hz hby
          split at e
          · rename_i q1 q2 q3 q4 q5 q6
            have q1 : n ≤ m := ble_le q1
            have q2 : m ≤ 1000000 := ble_le q2
            have q3 : by_ * m ≤ 1000000000 := ble_le q3
            have q4 := beq_eq' q4
            have q5 : 0 < s := blt_lt q5
            cases e
            obtain ⟨i, zc, hi, hic, hrun, hv⟩ := zero_ok hT hz w
            have hvc := (hv ρ w).cells
            have hzl : zc.cells.toList.length = s := by rw [← hvc.1, q4]
            have hrep := hvc.rep m
            have hbytes : i.bytes = by_ := by
              unfold Tab.bytes at hby
              split at hby
              · rename_i i' hi'
                have := hT.ty _ _ hi'
                rw [hi] at this; cases this
                simpa using hby
              · cases hby
            refine ⟨.cells (rep m zc.cells.toList).toArray el (0, 0), .slice (some ⟨w.heap.size, 0, none⟩) n m, ?_, ?_, fun ρ' _ hr => .sl _ _ _ _ hr q1 rfl⟩
            · exact OR.mk_cells (fun _ => hrep.1) (Nat.le_of_eq hrep.1) (by rw [hrep.1, List.take_of_length_le (Nat.le_refl _)]; exact hrep) (by simp)
            · have hcells : (Array.range (m * s)).map (fun i => zc.cells[i % zc.cells.size]!) = (rep m zc.cells.toList).toArray := by
                apply Array.ext'
                have := rep_range (z := zc.cells.toList) (by omega) m
                rw [hzl] at this
                simpa using this
              have hsize : i.size = s := by
                unfold Tab.size at hs
                split at hs
                · rename_i i' hi'
                  have := hT.ty _ _ hi'
                  rw [hi] at this; cases this
                  simpa using hs
                · cases hs
              have hA : (execOp evf o).run P w = ((Instr.makeSlice t (.int k1 n) (.int k2 m)).run P w).andThen fun a w' => .ok (.value a) w' := by
                have h0 : execOp evf o = (do pure (.value (← Instr.makeSlice t (evf l) (evf c)))) := by unfold execOp; rw [ho]
                rw [h0, hel, hec, Sem.run_bind]
                rfl
              have hb3 : (i.bytes : Int) * (m : Int) ≤ 281474976710656 := by
                have q : ((by_ * m : Nat) : Int) ≤ ((1000000000 : Nat) : Int) := Int.ofNat_le.2 q3
                rw [Int.natCast_mul] at q
                rw [hbytes]; omega
              rw [hA, run_make w t el i zc (und_ok hT hu) hi hic k1 k2 n m (by omega) (by omega) hb3 (by omega)]
              simp only [Result.andThen_ok, Int.toNat_natCast, madeCells, hsize]
              rw [hcells]
          · cases e
        · cases e
      · cases e
    · cases e
  · cases e

end
end Cv

/- Soundness: append, copy, clear, conversions. -/
set_option linter.unusedVariables false
set_option linter.unusedSimpArgs false
namespace Cv
open Go

section
variable {T : Tab} {P : Program} (hT : TabOk T P) {ρ : Ren} {h : Heap} {w : World}
include hT

omit hT in
theorem lenA_ok {x : AVal} {n : Nat} (e : lenA x = some n) {c : Value} (hx : V ρ w x c) (w2 : World) : (Builtin.lenOf c).run P w2 = .ok n w2 := by
  unfold lenA at e
  split at e
  · cases hx; cases e; rfl
  · cases hx; cases e; rfl
  · cases hx; cases e; rfl
  · cases hx with | str s _ hs => cases e; subst hs; simp [Builtin.lenOf]
  · cases e

omit hT in
/-- the first elements' cells, in whatever world has the same heap -/
theorem firstOf_ok {s n : Nat} {x : AVal} {xs : List AVal} (e : firstOf h s n x = some xs) (r : Rel ρ h w) {c : Value} (hx : V ρ w x c) (hn : ∀ m, lenA x = some m → n ≤ m) :
    ∃ cs, VL ρ w xs cs ∧ ∀ w2 : World, w2.heap = w.heap → (Builtin.firstCells s n c).run P w2 = .ok cs.toArray w2 := by
  unfold firstOf at e
  split at e
  · cases hx
    split at e
    · cases e; exact ⟨[], .nil _ _, fun w2 _ => rfl⟩
    · cases e
  · cases hx with | emp a c =>
    split at e
    · cases e; exact ⟨[], .nil _ _, fun w2 _ => by simp [Builtin.firstCells, loadCells, loadCellsFrom]⟩
    · cases e
  · rename_i id off len cap
    split at e
    · rename_i row hle hrow
      obtain ⟨hb2, rfl⟩ := takeN_some e
      cases hx with | sl _ _ c _ hb hl hc =>
      rename_i bb
      obtain ⟨ty, g, ho⟩ := rowOf_some hrow
      obtain ⟨cs, fz, hblk, _, hlen, hv, _⟩ := r.row ho hb
      have hb3 : off + n * s ≤ row.length := hb2
      refine ⟨(cs.drop off).take (n * s), ?_, fun w2 hw2 => ?_⟩
      · have := (hv.drop off).take (n * s)
        rw [drop_take_take cs _ _ _ hb3] at this
        exact this
      · simp only [Builtin.firstCells]
        exact run_loadCells_at (by rw [hw2]; exact hblk) (by omega)
    · cases e
  · rename_i l
    cases hx with | str st _ hs =>
    cases e
    have hle : n ≤ st.size := by have := hn _ rfl; rw [← hs] at this; simpa using this
    refine ⟨(st.data.toList.take n).map fun b => Value.int .u8 b.toNat, ?_, fun w2 _ => ?_⟩
    · subst hs
      refine ⟨by simp, fun i x c hx hc => ?_⟩
      rw [List.getElem?_map, List.getElem?_take] at hc
      rw [List.getElem?_map, List.getElem?_take, List.getElem?_map] at hx
      split at hx
      · rename_i hi
        rw [if_pos hi] at hc
        cases hb : st.data.toList[i]? with
        | none => rw [hb] at hc; simp at hc
        | some b => rw [hb] at hc hx; simp at hc hx; subst hc; subst hx; exact .int _ _
      · simp at hx
    · simp only [Builtin.firstCells, Sem.run_pure]
      congr 1
      apply Array.ext'
      simp [ByteArray.data_extract, List.extract_eq_take_drop]
  · cases e

/-- what append appends: how many, and their cells, in whatever world has the same heap -/
structure App (P : Program) (w : World) (xt : TypeId) (i : TypeInfo) (zc : Value) (s : Nat) (d : Value) (n : Nat) (cs : List Value) : Prop where
  ways : (∃ kk k, P.underlying xt = some (.int kk) ∧ d = .int k (n : Int) ∧ n ≤ 1000000 ∧ cs = rep n zc.cells.toList) ∨
    ((∃ du, P.underlying xt = some du ∧ ∀ k, du ≠ .int k) ∧ (∀ w2 : World, (Builtin.lenOf d).run P w2 = .ok n w2) ∧ ∀ w2 : World, w2.heap = w.heap → (Builtin.firstCells s n d).run P w2 = .ok cs.toArray w2)

theorem appended_ok {e : TypeId} {s n : Nat} {xt : TypeId} {x : AVal} {xs : List AVal} (he : appended T h e s xt x = some (n, xs)) (r : Rel ρ h w) {d : Value} (hx : V ρ w x d) {i : TypeInfo} {zc : Value} {z : AVal} (hz : T.zero e = some z)
    (hi : P.info? e = some i) (hic : i.zero = some zc) (hzl : zc.cells.toList.length = s) : ∃ cs, VL ρ w xs cs ∧ App P w xt i zc s d n cs := by
  unfold appended at he
  split at he
  · rename_i kk hu
    split at he
    · rename_i k m z' hz'
      split at he
      · rename_i h1 h2
        cases he
        obtain ⟨i', zc', hi', hic', _, hv⟩ := zero_ok hT hz' w
        rw [hi] at hi'; cases hi'
        rw [hic] at hic'; cases hic'
        cases hx
        exact ⟨rep n zc.cells.toList, ((hv ρ w).cells).rep n, ⟨.inl ⟨kk, _, und_ok hT hu, rfl, ble_le h1, rfl⟩⟩⟩
      · cases he
    · cases he
  · rename_i du hnd hu
    split at he
    · rename_i m hm
      split at he
      · rename_i cs hcs
        cases he
        obtain ⟨ds, q1, q2⟩ := firstOf_ok (P := P) hcs r hx (fun m' hm' => by rw [hm] at hm'; cases hm'; exact Nat.le_refl _)
        exact ⟨ds, q1, ⟨.inr ⟨⟨du, und_ok hT hu, fun k hk => hnd k hk⟩, fun w2 => lenA_ok hm hx w2, q2⟩⟩⟩
      · cases he
    · cases he
  · cases he

omit hT in
theorem wrap_nat (n : Nat) (h : n ≤ 1000000) : IntKind.i64.wrap (n : Int) = n := by rw [IntKind.wrap_i64]; omega

omit hT in
/-- append within the capacity -/
theorem run_append_in {ts xt ty el : TypeId} (hu : P.underlying ts = some (.slice el)) {i : TypeInfo} (hi : P.info? el = some i) {zc : Value} (hz : i.zero = some zc) {s : Nat} (hs : i.size = s) (hzl : zc.cells.toList.length = s) (hs0 : 0 < s)
    {d : Value} {n : Nat} {cs : List Value} (a : App P w xt i zc s d n cs) (hby : (n : Int) * (i.bytes : Int) ≤ 1000000000) (base : Option Addr) {len cap : Nat} (hc : len + n ≤ cap) :
    (Builtin.append_ #[ts, xt] ty #[.slice base len cap, d]).run P w = (match base with
      | some ad => ((storeCells (ad.add (len * s)) cs).run P w).andThen fun _ w' => .ok (.slice base (len + n) cap) w'
      | none => .ok (.slice base (len + n) cap) w) := by
  have hzc : (zeroValue el).run P w = .ok zc w := by simp [zeroValue, typeInfo, hi, hz]
  have hinfo : (typeInfo el).run P w = .ok i w := by simp [typeInfo, hi]
  have hsz : (Go.sizeOf el).run P w = .ok s w := by simp [Go.sizeOf, typeInfo, hi, hs]
  rcases a.ways with ⟨kk, k, hx, hd, hn, hcs⟩ | ⟨⟨du, hx, hnk⟩, hl, hf⟩
  · subst hd
    have hw := wrap_nat n hn
    have hzr : (Builtin.zeroCells zc.cells n).toList = cs := by
      rw [hcs]
      have := rep_range (z := zc.cells.toList) (by omega) n
      rw [← this]
      simp [Builtin.zeroCells]
    have hneg : ¬ ((n : Int) < 0) := by omega
    have hbig : ¬ ((n : Int) * (i.bytes : Int) > 281474976710656) := by omega
    by_cases hn0 : n * s = 0
    · have hn00 : n = 0 := by
        rcases Nat.mul_eq_zero.1 hn0 with h | h
        · exact h
        · omega
      subst hn00
      have hcs0 : cs = [] := by rw [hcs]; rfl
      subst hcs0
      have hw0 : IntKind.i64.wrap 0 = 0 := by decide
      have hc0 : len ≤ cap := hc
      cases base <;> simp [Builtin.append_, run_underlying hu, run_underlying hx, hsz, hinfo, asInt, asIntOf, hw0, hc0, storeCells]
    · cases base with
      | none => simp [Builtin.append_, run_underlying hu, run_underlying hx, hsz, hinfo, asInt, asIntOf, hw, hc, hneg, hbig, hn0, hzc]
      | some ad => simp [Builtin.append_, run_underlying hu, run_underlying hx, hsz, hinfo, asInt, asIntOf, hw, hc, hneg, hbig, hn0, hzc, hzr]
  · have hm : (du matches .int _) = false := by
      cases du <;> first | rfl | exact absurd rfl (hnk _)
    have hf' := hf w rfl
    cases base with
    | none => simp [Builtin.append_, run_underlying hu, run_underlying hx, hsz, hm, hl, hc, hf']
    | some ad => simp [Builtin.append_, run_underlying hu, run_underlying hx, hsz, hm, hl, hc, hf']

omit hT in
theorem growBy_le (n : Nat) : ∀ (r c : Nat), Builtin.growBy n r c ≤ max c (n + (n + 768) / 4)
  | 0, c => by simp only [Builtin.growBy]; omega
  | r + 1, c => by
    simp only [Builtin.growBy]
    split
    · omega
    · have := growBy_le n r (c + (c + 768) / 4)
      omega

omit hT in
theorem next_le {need cap : Nat} (h : cap < need) : Builtin.nextslicecap need cap ≤ 2 * need + 1000 := by
  unfold Builtin.nextslicecap
  split
  · omega
  · split
    · omega
    · have := growBy_le need 4 cap
      omega

omit hT in
/-- append beyond the capacity -/
theorem run_append_new {ts xt ty el : TypeId} (hu : P.underlying ts = some (.slice el)) {i : TypeInfo} (hi : P.info? el = some i) {zc : Value} (hz : i.zero = some zc) {s : Nat} (hs : i.size = s) (hzl : zc.cells.toList.length = s) (hs0 : 0 < s)
    {d : Value} {n : Nat} {cs : List Value} (a : App P w xt i zc s d n cs) (hby : (n : Int) * (i.bytes : Int) ≤ 1000000000) (base : Option Addr) {len cap : Nat} (hlc : len ≤ cap) (hc : cap < len + n) (hneed : len + n ≤ 2000000000)
    (hnext : Builtin.nextslicecap (len + n) cap * i.bytes ≤ 2000000000) {old : List Value} (hold : ∀ w2 : World, w2.heap = w.heap → (Builtin.firstCells s len (.slice base len cap)).run P w2 = .ok old.toArray w2) :
    ∃ newCap rest, len + n ≤ newCap ∧ rest.length = (newCap - (len + n)) * s ∧
      (Builtin.append_ #[ts, xt] ty #[.slice base len cap, d]).run P w = .ok (.slice (some ⟨w.heap.size, 0, none⟩) (len + n) newCap) (w.drew.alloc (.cells (old ++ cs ++ rest).toArray el)) := by
  have hzc : ∀ w2, (zeroValue el).run P w2 = .ok zc w2 := fun w2 => by simp [zeroValue, typeInfo, hi, hz]
  have hinfo : ∀ w2, (typeInfo el).run P w2 = .ok i w2 := fun w2 => by simp [typeInfo, hi]
  have hsz : (Go.sizeOf el).run P w = .ok s w := by simp [Go.sizeOf, typeInfo, hi, hs]
  have hzr : ∀ m, (Builtin.zeroCells zc.cells m) = (rep m zc.cells.toList).toArray := fun m => by
    apply Array.ext'
    have := rep_range (z := zc.cells.toList) (by omega) m
    rw [show (rep m zc.cells.toList).toArray.toList = rep m zc.cells.toList from rfl, ← this]
    simp [Builtin.zeroCells]
  have hnc : ¬ (len + n ≤ cap) := by omega
  have hbig2 : ¬ (281474976710656 < Builtin.nextslicecap (len + n) cap * i.bytes) := by omega
  have hq : (Question.appendCap (len + n) cap el).forced = false := rfl
  let q := (Question.appendCap (len + n) cap el).cut (w.tape w.drawn (Question.appendCap (len + n) cap el))
  refine ⟨q, rep (q - (len + n)) zc.cells.toList, ?_, by rw [rep_length, hzl], ?_⟩
  · show len + n ≤ (len + n) + _ % _
    omega
  have hroom : ∀ m w2, (askRoom m).run P w2 = .ok () w2 := fun m w2 => run_askRoom P w2 m
  have hold' := hold w.drew rfl
  have hmax : ¬ (9223372036854775807 < ((len + n : Nat) : Int)) := by omega
  rcases a.ways with ⟨kk, k, hx, hd, hn, hcs⟩ | ⟨⟨du, hx, hnk⟩, hl, hf⟩
  · subst hd
    have hw := wrap_nat n hn
    have hneg : ¬ ((n : Int) < 0) := by omega
    have hbig : ¬ (281474976710656 < (n : Int) * (i.bytes : Int)) := by omega
    have hmax2 : ¬ (9223372036854775807 < (len : Int) + (n : Int)) := by omega
    by_cases hn0 : n * s = 0
    · have hn00 : n = 0 := by
        rcases Nat.mul_eq_zero.1 hn0 with h | h
        · exact h
        · omega
      omega
    · simp [Builtin.append_, run_underlying hu, run_underlying hx, hsz, hinfo, asInt, asIntOf, hw, hnc, hneg, hbig, hn0, hzc, hbig2, hmax2, hold', hq, hzr, newRow, q, hcs]
  · have hm : (du matches .int _) = false := by
      cases du <;> first | rfl | exact absurd rfl (hnk _)
    have hf' := hf w.drew rfl
    have hbytes : i.bytes = 0 ∨ i.bytes ≠ 0 := by omega
    have hmax2 : ¬ (9223372036854775807 < (len : Int) + (n : Int)) := by omega
    simp [Builtin.append_, run_underlying hu, run_underlying hx, hsz, hinfo, hm, hl, hnc, hf', hzc, hbig2, hmax2, hold', hq, hzr, newRow, q]


theorem bytes_ok {t : TypeId} {n : Nat} (h : T.bytes t = some n) {i : TypeInfo} (hi : P.info? t = some i) : i.bytes = n := by
  unfold Tab.bytes at h
  split at h
  · rename_i i' hi'
    have := hT.ty _ _ hi'
    rw [hi] at this; cases this
    simpa using h
  · cases h

theorem size_ok' {t : TypeId} {n : Nat} (h : T.size t = some n) {i : TypeInfo} (hi : P.info? t = some i) : i.size = n := by
  unfold Tab.size at h
  split at h
  · rename_i i' hi'
    have := hT.ty _ _ hi'
    rw [hi] at this; cases this
    simpa using h
  · cases h

omit hT in
theorem shape_alloc (cs : List Value) (el : TypeId) : (w.drew.alloc (.cells cs.toArray el)).shape? w.heap.size = some (el, cs.length) :=
  shape_block (fz := (0, 0)) (by show (w.heap.push _)[w.heap.size]? = _; simp)

omit hT in
/-- a new block of cells, behind a draw -/
theorem new_cells (r : Rel ρ h w) {rid : Nat} (hr : ρ rid = none ∧ rid < h.next) {xs : List AVal} {cs rest : List Value} (hv : VL ρ w xs cs) (el : TypeId) :
    let ρ' : Ren := fun i => if i = rid then some w.heap.size else ρ i
    let w' := w.drew.alloc (.cells (cs ++ rest).toArray el)
    Rel ρ' (h.set rid (.cells xs el true)) w' ∧ Ext (· = rid) ρ h w ρ' (h.set rid (.cells xs el true)) w' ∧ ρ' rid = some w.heap.size :=
  r.new (c := .cells (cs ++ rest).toArray el) hr.1 hr.2 rfl rfl rfl rfl (OR.mk_cells (by simp) (by rw [hv.1]; simp) (by rw [hv.1]; simpa using hv) (by simp))

theorem opAppend_ok {rid : Nat} {ts xt ty : TypeId} {sv x v : AVal} {h' : Heap} (e : opAppend T h rid ts xt sv x = some (v, h')) (r : Rel ρ h w) (hr : ρ rid = none ∧ rid < h.next) {c d : Value} (hs : V ρ w sv c) (hx : V ρ w x d) :
    ∃ ρ' w' q, (Builtin.append_ #[ts, xt] ty #[c, d]).run P w = .ok q w' ∧ Rel ρ' h' w' ∧ V ρ' w' v q ∧ Ext (· = rid) ρ h w ρ' h' w' := by
  unfold opAppend at e
  split at e
  · rename_i el hu
    split at e
    · rename_i s by_ z hsz hbyt hz
      split at e
      · rename_i q1 q2 q3
        have q1 : 0 < s := blt_lt q1
        have q2 := beq_eq' q2
        have q3 : 0 < by_ := blt_lt q3
        obtain ⟨i, zc, hi, hic, hrun, hvz⟩ := zero_ok hT hz w
        have hzl : zc.cells.toList.length = s := by rw [← (hvz ρ w).cells.1, q2]
        have hsize := size_ok' hT hsz hi
        have hbytes := bytes_ok hT hbyt hi
        split at e
        · rename_i n xs hap
          obtain ⟨cs, hxs, happ⟩ := appended_ok hT hap r hx hz hi hic hzl
          split at e
          · rename_i p1 p2 p3
            have p2 : xs.length = n * s := beq_eq' p2
            have p3 : n * by_ ≤ 1000000000 := ble_le p3
            have hby : (n : Int) * (i.bytes : Int) ≤ 1000000000 := by
              have := Int.ofNat_le.2 p3
              rw [Int.natCast_mul] at this
              rw [hbytes]; exact this
            have hnle : n ≤ 1000000000 := Nat.le_trans (Nat.le_mul_of_pos_right n q3) p3
            split at e
            · -- nil
              cases hs
              split at e
              · cases e
                refine ⟨ρ, w, .slice none 0 0, ?_, r, .nils, Ext.refl _ _ _ _⟩
                rw [run_append_in (und_ok hT hu) hi hic hsize hzl q1 happ hby none (by omega)]
              · rename_i hn0
                have hn0 : n ≠ 0 := fun h0 => hn0 h0
                cases e
                have hnx : Builtin.nextslicecap (0 + n) 0 * i.bytes ≤ 2000000000 := by
                  have h1 : Builtin.nextslicecap (0 + n) 0 = n := by
                    unfold Builtin.nextslicecap
                    rw [if_pos (by omega)]; omega
                  rw [h1, hbytes]; omega
                obtain ⟨newCap, rest, c1, c2, c3⟩ := run_append_new (P := P) (w := w) (ts := ts) (ty := ty) (und_ok hT hu) hi hic hsize hzl q1 happ hby none (len := 0) (cap := 0) (Nat.le_refl _) (by omega) (by omega) hnx (old := []) (fun w2 _ => by simp [Builtin.firstCells])
                obtain ⟨n1, n2, n3⟩ := new_cells r hr (rest := rest) hxs el
                simp only [List.nil_append] at c3
                refine ⟨_, _, _, c3, n1, ?_, n2⟩
                rw [Nat.zero_add]
                refine .sl _ _ _ _ n3 (by omega) ⟨q1, el, (cs ++ rest).length, shape_alloc _ _, ?_⟩
                rw [List.length_append, c2, ← hxs.1, p2, Nat.zero_add, Nat.zero_add, ← Nat.add_mul]
                congr 1; omega
            · -- an empty one
              cases hs with | emp a c =>
              split at e
              · cases e
                refine ⟨ρ, w, .slice (some a) 0 c, ?_, r, .emp _ _, Ext.refl _ _ _ _⟩
                rw [run_append_in (und_ok hT hu) hi hic hsize hzl q1 happ hby (some a) (by omega)]
                have hcs0 : cs = [] := List.eq_nil_of_length_eq_zero (by rw [← hxs.1, p2]; simp)
                subst hcs0
                simp [storeCells]
              · cases e
            · -- an exact capacity
              rename_i id off len k
              cases hs with | sl _ _ c _ hb hl hc =>
              rename_i bb
              have hc : c = k := hc
              subst hc
              split at e
              · rename_i hfit
                have hfit : len + n ≤ c := ble_le hfit
                split at e
                · rename_i h2 hwr
                  cases e
                  obtain ⟨w', s1, s2, s3⟩ := wr_ok hwr (P := P) r hb hxs
                  have s1 : (storeCells ⟨bb, off + len * s, none⟩ cs).run P w = .ok () w' := s1
                  refine ⟨ρ, w', .slice (some ⟨bb, off, none⟩) (len + n) c, ?_, s2, .sl _ _ _ _ hb hfit rfl, s3.weaken (fun _ h => h.elim)⟩
                  rw [run_append_in (und_ok hT hu) hi hic hsize hzl q1 happ hby (some ⟨bb, off, none⟩) hfit]
                  simp [Addr.add_lit, s1]
                · cases e
              · rename_i hnfit
                have hnfit : ¬ (len + n ≤ c) := fun hh => by
                  have h2 : Nat.ble (Nat.add len n) c = true := Nat.ble_eq_true_of_le hh
                  rw [h2] at hnfit; cases hnfit
                split at e
                · rename_i old hold hlim
                  have hlim : (2 * (len + n) + 1000) * by_ ≤ 1000000000 := ble_le hlim
                  split at e
                  · cases e
                    obtain ⟨ocs, o1, o2⟩ := firstOf_ok (P := P) hold r (.sl off len c (.ex c) hb hl rfl) (fun m hm => by cases hm; exact Nat.le_refl _)
                    have hneed : len + n ≤ 2000000000 := by
                      have := Nat.le_mul_of_pos_right (2 * (len + n) + 1000) q3
                      omega
                    have hnx : Builtin.nextslicecap (len + n) c * i.bytes ≤ 2000000000 := by
                      have h1 := next_le (need := len + n) (cap := c) (by omega)
                      have := Nat.mul_le_mul_right by_ h1
                      rw [hbytes]; omega
                    obtain ⟨newCap, rest, c1, c2, c3⟩ := run_append_new (P := P) (w := w) (ts := ts) (ty := ty) (und_ok hT hu) hi hic hsize hzl q1 happ hby (some ⟨bb, off, none⟩) (len := len) (cap := c) hl (by omega) hneed hnx (old := ocs) o2
                    obtain ⟨n1, n2, n3⟩ := new_cells r hr (rest := rest) (o1.append hxs) el
                    refine ⟨_, _, _, c3, n1, ?_, n2⟩
                    have hol : ocs.length = len * s := by
                      rw [← o1.1]
                      simp only [firstOf] at hold
                      split at hold
                      · rename_i row hle hrow
                        obtain ⟨g1, g2⟩ := takeN_some hold
                        have g1 : off + len * s ≤ row.length := g1
                        rw [g2]
                        simp only [List.length_take, List.length_drop]
                        show min (len * s) (row.length - off) = len * s
                        omega
                      · cases hold
                    refine .sl _ _ _ _ n3 c1 ⟨q1, el, (ocs ++ cs ++ rest).length, shape_alloc _ _, ?_⟩
                    rw [List.length_append, List.length_append, c2, ← hxs.1, p2, hol, ← Nat.add_mul, ← Nat.add_mul, Nat.zero_add]
                    congr 1
                    show len + n + (newCap - (len + n)) = newCap
                    omega
                  · cases e
                · cases e
            · -- to the end of its block
              rename_i id off len sz
              split at e
              · rename_i row ty' g hszq ho
                have hszq := beq_eq' hszq
                subst hszq
                cases hs with | sl _ _ c _ hb hl hc =>
                rename_i bb
                obtain ⟨_, e', nn, hsh, hnn⟩ := hc
                obtain ⟨bcs, fz, hblk, hg, hlen, hv, hfz⟩ := r.row ho hb
                rw [shape_block hblk] at hsh
                simp at hsh
                split at e
                · rename_i hfit
                  have hfit : off + (len + n) * sz ≤ row.length := ble_le hfit
                  split at e
                  · rename_i h2 hwr
                    cases e
                    have hcap : len + n ≤ c := by
                      have : (len + n) * sz ≤ c * sz := by omega
                      exact Nat.le_of_mul_le_mul_right this q1
                    obtain ⟨w', s1, s2, s3⟩ := wr_ok hwr (P := P) r hb hxs
                    have s1 : (storeCells ⟨bb, off + len * sz, none⟩ cs).run P w = .ok () w' := s1
                    refine ⟨ρ, w', .slice (some ⟨bb, off, none⟩) (len + n) c, ?_, s2, .sl _ _ _ _ hb hcap ⟨q1, _, _, s3.shp _ _ _ (shape_block hblk), by omega⟩, s3.weaken (fun _ h => h.elim)⟩
                    rw [run_append_in (und_ok hT hu) hi hic hsize hzl q1 happ hby (some ⟨bb, off, none⟩) hcap]
                    simp [Addr.add_lit, s1]
                  · cases e
                · split at e
                  · rename_i f1 f2 f3 f4 f5
                    have f1 : off = 0 := beq_eq' f1
                    have f2 : len * sz = row.length := beq_eq' f2
                    have f3 : ty' = el := beq_eq' f3
                    have f5 : (2 * (len + n) + 1000) * by_ ≤ 1000000000 := ble_le f5
                    subst f1; subst f3
                    cases e
                    have hneed : len + n ≤ 2000000000 := by
                      have := Nat.le_mul_of_pos_right (2 * (len + n) + 1000) q3
                      omega
                    by_cases hin : len + n ≤ c
                    · -- there is room
                      have hcl : bcs.length = c * sz := by omega
                      have hbound : 0 + len * sz + 0 + cs.length ≤ bcs.length := by
                        rw [hcl, ← hxs.1, p2]
                        have : (len + n) * sz ≤ c * sz := Nat.mul_le_mul_right _ hin
                        rw [Nat.add_mul] at this
                        omega
                      obtain ⟨w', s1, s2, s3, s4, s5⟩ := run_storeCells_at' (P := P) (0 + len * sz) cs 0 bcs w hblk hbound (allScal_ok hxs p1) hfz
                      have hlt : bb < w.heap.size := r.bound _ _ hb
                      have hat : w'.heap[bb]? = some (.cells (upd bcs (0 + len * sz + 0) cs).toArray ty' fz) := by rw [s2, Array.getElem?_setIfInBounds, if_pos rfl, if_pos hlt]
                      have hsame : ∀ y, y ≠ bb → w'.heap[y]? = w.heap[y]? := fun y hy => by rw [s2, Array.getElem?_setIfInBounds, if_neg (fun e => hy e.symm)]
                      have hsz' : w'.heap.size = w.heap.size := by rw [s2]; simp
                      have hshp : ∀ y e n, w.shape? y = some (e, n) → w'.shape? y = some (e, n) := fun y e n hy => by
                        by_cases hyb : y = bb
                        · subst hyb
                          rw [shape_block hblk] at hy
                          rw [shape_block hat, upd_length]; exact hy
                        · rw [shape_congr (hsame y hyb)]; exact hy
                      let ρ' : Ren := fun i => if i = rid then some bb else ρ i
                      have hmono : ∀ i b, ρ i = some b → ρ' i = some b := fun i b hib => by
                        have : i ≠ rid := fun e => by rw [e, hr.1] at hib; cases hib
                        simp [ρ', this, hib]
                      have gr : Grow ρ w ρ' w' := ⟨hmono, hshp⟩
                      have hcase : ∀ i b, ρ' i = some b → (i = rid ∧ b = bb) ∨ (i ≠ rid ∧ ρ i = some b) := fun i b hib => by
                        by_cases ei : i = rid
                        · left; simp [ρ', ei] at hib; exact ⟨ei, hib.symm⟩
                        · right; simp [ρ', ei] at hib; exact ⟨ei, hib⟩
                      have hheap : ∀ i oi, (newCells (h.del id) rid (row ++ xs) ty' true).get i = some oi → (i = rid ∧ AObj.cells (row ++ xs) ty' true = oi) ∨ (i ≠ rid ∧ i ≠ id ∧ h.get i = some oi) := fun i oi hi => by
                        rcases Heap.get_set hi with ⟨e1, e2⟩ | ⟨e1, e2⟩
                        · exact .inl ⟨e1, e2⟩
                        · exact .inr ⟨e1, (Heap.get_del e2).1, (Heap.get_del e2).2⟩
                      refine ⟨ρ', w', .slice (some ⟨bb, 0, none⟩) (len + n) c, ?_, ⟨?_, ?_, ?_, ?_⟩, ?_, ⟨hmono, ?_, ?_, ?_, hshp, by omega, s3, s4, s5, Nat.le_refl _⟩⟩
                      · rw [run_append_in (und_ok hT hu) hi hic hsize hzl q1 happ hby (some ⟨bb, 0, none⟩) hin]
                        simp only [Addr.add_lit, s1, Result.andThen_ok]
                      · intro i oi hio
                        rcases hheap i oi hio with ⟨e1, e2⟩ | ⟨e1, e2, e3⟩
                        · subst e1; subst e2
                          refine ⟨bb, _, by simp [ρ'], hat, ?_⟩
                          have hl2 : (row ++ xs).length ≤ (upd bcs (0 + len * sz + 0) cs).length := by
                            rw [upd_length, List.length_append, hxs.1]; omega
                          refine OR.mk_cells (by simp) hl2 ?_ (by rw [upd_length]; exact hfz)
                          have hv2 := (hv.append hxs).mono gr
                          have e5 : (upd bcs (0 + len * sz + 0) cs).take (row ++ xs).length = bcs.take row.length ++ cs := by
                            apply List.ext_getElem?
                            intro j
                            have hb' : 0 + len * sz + 0 + cs.length ≤ bcs.length := hbound
                            rw [List.getElem?_take, upd_get _ _ _ _ hb', List.length_append, hxs.1]
                            have hrl : (bcs.take row.length).length = row.length := by simp; omega
                            by_cases hj : j < row.length
                            · rw [if_pos (by omega), if_neg (by omega), List.getElem?_append_left (by omega), List.getElem?_take, if_pos hj]
                            · by_cases hj2 : j < row.length + cs.length
                              · rw [if_pos hj2, if_pos (by omega), List.getElem?_append_right (by omega), hrl]
                                congr 1; omega
                              · rw [if_neg hj2, List.getElem?_append_right (by omega), hrl, List.getElem?_eq_none (by omega)]
                          rw [e5]; exact hv2
                        · obtain ⟨y, cy, z1, z2, z3⟩ := r.obj i oi e3
                          have hyb : y ≠ bb := fun e => e2 (r.inj i id oi _ y e3 ho z1 (e ▸ hb))
                          exact ⟨y, cy, hmono _ _ z1, by rw [hsame y hyb]; exact z2, z3.mono gr⟩
                      · intro i j oi oj y hio hjo hiy hjy
                        rcases hheap i oi hio with ⟨e1, _⟩ | ⟨e1, e2, e3⟩ <;> rcases hheap j oj hjo with ⟨g1, _⟩ | ⟨g1, g2, g3⟩
                        · rw [e1, g1]
                        · rcases hcase j y hjy with ⟨k1, _⟩ | ⟨_, k2⟩
                          · exact absurd k1 g1
                          · rcases hcase i y hiy with ⟨_, k3⟩ | ⟨k3, _⟩
                            · exact absurd (r.inj j id oj _ y g3 ho k2 (k3 ▸ hb)) g2
                            · exact absurd e1 k3
                        · rcases hcase i y hiy with ⟨k1, _⟩ | ⟨_, k2⟩
                          · exact absurd k1 e1
                          · rcases hcase j y hjy with ⟨_, k3⟩ | ⟨k3, _⟩
                            · exact absurd (r.inj i id oi _ y e3 ho k2 (k3 ▸ hb)) e2
                            · exact absurd g1 k3
                        · rcases hcase i y hiy with ⟨k1, _⟩ | ⟨_, k2⟩
                          · exact absurd k1 e1
                          · rcases hcase j y hjy with ⟨k1, _⟩ | ⟨_, k3⟩
                            · exact absurd k1 g1
                            · exact r.inj i j oi oj y e3 g3 k2 k3
                      · intro i hi2
                        have : i ≠ rid := fun e => by rw [e] at hi2; have : h.next ≤ rid := hi2; omega
                        simp [ρ', this]; exact r.fresh i hi2
                      · intro i y hiy
                        rw [hsz']
                        rcases hcase i y hiy with ⟨_, k⟩ | ⟨_, k⟩
                        · omega
                        · exact r.bound i y k
                      · exact .sl _ _ _ _ (by simp [ρ']) hin ⟨q1, _, _, hshp _ _ _ (shape_block hblk), by omega⟩
                      · intro i y hiy
                        rcases hcase i y hiy with ⟨k1, k2⟩ | ⟨_, k⟩
                        · exact .inr ⟨.inl k1, .inr ⟨id, _, ho, k2 ▸ hb⟩⟩
                        · exact .inl k
                      · rintro y ⟨i, oi, hio, hiy⟩
                        right
                        rcases hcase i y hiy with ⟨k1, k2⟩ | ⟨k0, k⟩
                        · exact ⟨id, _, ho, k2 ▸ hb⟩
                        · rcases hheap i oi hio with ⟨e1, _⟩ | ⟨_, _, e3⟩
                          · exact absurd e1 k0
                          · exact ⟨i, oi, e3, k⟩
                      · intro y hy hno
                        exact hsame y (fun e => hno ⟨id, _, ho, e ▸ hb⟩)
                    · -- a new block
                      have hnx : Builtin.nextslicecap (len + n) c * i.bytes ≤ 2000000000 := by
                        have h1 := next_le (need := len + n) (cap := c) (by omega)
                        have := Nat.mul_le_mul_right by_ h1
                        rw [hbytes]; omega
                      have hold : ∀ w2 : World, w2.heap = w.heap → (Builtin.firstCells sz len (.slice (some ⟨bb, 0, none⟩) len c)).run P w2 = .ok (bcs.take row.length).toArray w2 := fun w2 hw2 => by
                        simp only [Builtin.firstCells]
                        have := run_loadCells_at (P := P) (w := w2) (off := 0) (n := len * sz) (by rw [hw2]; exact hblk) (by omega)
                        rw [this]
                        simp [f2]
                      obtain ⟨newCap, rest, c1, c2, c3⟩ := run_append_new (P := P) (w := w) (ts := ts) (ty := ty) (und_ok hT hu) hi hic hsize hzl q1 happ hby (some ⟨bb, 0, none⟩) (len := len) (cap := c) hl (by omega) hneed hnx (old := bcs.take row.length) hold
                      obtain ⟨n1, n2, n3⟩ := new_cells (r.del id) (rid := rid) hr (rest := rest) (hv.append hxs) ty'
                      refine ⟨_, _, _, c3, n1, ?_, ?_⟩
                      · refine .sl _ _ _ _ n3 c1 ⟨q1, ty', (bcs.take row.length ++ cs ++ rest).length, shape_alloc _ _, ?_⟩
                        have hrl : (bcs.take row.length).length = len * sz := by simp; omega
                        rw [List.length_append, List.length_append, c2, ← hxs.1, p2, hrl, ← Nat.add_mul, ← Nat.add_mul, Nat.zero_add]
                        congr 1
                        show len + n + (newCap - (len + n)) = newCap
                        omega
                      · have hsub : ∀ y, Owns ρ (h.del id) y → Owns ρ h y := fun y ⟨i, oi, a, b⟩ => ⟨i, oi, (Heap.get_del a).2, b⟩
                        exact { n2 with
                          new := fun i y hiy => (n2.new i y hiy).imp (fun z => z) fun ⟨a, b⟩ => ⟨a, b.imp (fun z => z) (hsub y)⟩
                          own := fun y hy => (n2.own y hy).imp (fun z => z) (hsub y)
                          blk := fun y hy hno => n2.blk y hy (fun ho => hno (hsub y ho)) }
                  · cases e
              · cases e
            · cases e
          · cases e
        · cases e
      · cases e
    · cases e
  · cases e

end
end Cv

/- Soundness: copy, clear, conversions, maps. -/
set_option linter.unusedVariables false
set_option linter.unusedSimpArgs false
namespace Cv
open Go

section
variable {T : Tab} {P : Program} (hT : TabOk T P) {ρ : Ren} {h : Heap} {w : World}
include hT

theorem opCopy_ok {ts xt ty : TypeId} {dv x v : AVal} {h' : Heap} (e : opCopy T h ts dv x = some (v, h')) (r : Rel ρ h w) {c d : Value} (hd : V ρ w dv c) (hx : V ρ w x d) :
    ∃ w' q, (Builtin.copy_ #[ts, xt] ty #[c, d]).run P w = .ok q w' ∧ Rel ρ h' w' ∧ V ρ w' v q ∧ Ext (fun _ => False) ρ h w ρ h' w' := by
  unfold opCopy at e
  split at e
  · rename_i el hu
    split at e
    · rename_i s dl xl hs hdl hxl
      split at e
      · rename_i xs hxs
        obtain ⟨cs, v1, v2⟩ := firstOf_ok (P := P) hxs r hx (fun m hm => by rw [hxl] at hm; cases hm; exact Nat.min_le_left _ _)
        have hlen := lenA_ok (P := P) hxl hx w
        have hu' := und_ok hT hu
        split at e
        · cases hd
          cases hdl; cases e
          have hm : Nat.min xl 0 = 0 := Nat.min_zero _
          refine ⟨w, .int .i64 0, ?_, r, ?_, Ext.refl _ _ _ _⟩
          · have v2' := v2 w rfl
            rw [show min xl 0 = 0 from Nat.min_zero _] at v2'
            simp [Builtin.copy_, run_underlying hu', hlen, size_ok hT hs, v2', goInt]
          · rw [show min xl 0 = 0 from Nat.min_zero _]; exact .int _ _
        · cases hd with | emp a cc =>
          cases hdl; cases e
          have hcs0 : cs = [] := by
            have := v1.1
            apply List.eq_nil_of_length_eq_zero
            rw [← this]
            rw [show min xl 0 = 0 from Nat.min_zero _] at hxs
            unfold firstOf at hxs
            split at hxs
            · cases hxs; rfl
            · cases hxs; rfl
            · split at hxs
              · obtain ⟨_, rfl⟩ := takeN_some hxs
                simp
              · cases hxs
            · cases hxs; simp
            · cases hxs
          subst hcs0
          refine ⟨w, .int .i64 0, ?_, r, ?_, Ext.refl _ _ _ _⟩
          · have v2' := v2 w rfl
            rw [show min xl 0 = 0 from Nat.min_zero _] at v2'
            simp [Builtin.copy_, run_underlying hu', hlen, size_ok hT hs, v2', goInt, storeCells]
          · rw [show min xl 0 = 0 from Nat.min_zero _]; exact .int _ _
        · rename_i id off len cap
          cases hd with | sl _ _ c _ hb hl hc =>
          rename_i bb
          cases hdl
          split at e
          · rename_i h2 hwr
            cases e
            obtain ⟨w', s1, s2, s3⟩ := wr_ok hwr (P := P) r hb v1
            refine ⟨w', .int .i64 ((min xl dl : Nat)), ?_, s2, .int _ _, s3⟩
            have v2' := v2 w rfl
            have hmin : Nat.min xl dl = min xl dl := rfl
            simp only [Builtin.copy_, Sem.run_bind, run_underlying hu', Result.andThen_ok, hlen, size_ok hT hs, hmin, v2', List.size_toArray, List.getElem?_toArray]
            simp [run_underlying hu', hlen, size_ok hT hs, v2', s1, goInt]
          · cases e
        · cases e
      · cases e
    · cases e
  · cases e

theorem opClear_ok {ts ty : TypeId} {dv : AVal} {h' : Heap} (e : opClear T h ts dv = some h') (r : Rel ρ h w) {c : Value} (hd : V ρ w dv c) :
    ∃ w', (Builtin.clear_ #[ts] ty #[c]).run P w = .ok (.tuple #[]) w' ∧ Rel ρ h' w' ∧ Ext (fun _ => False) ρ h w ρ h' w' := by
  unfold opClear at e
  split at e
  · rename_i el hu
    have hu' := und_ok hT hu
    split at e
    · cases hd; cases e
      exact ⟨w, by simp [Builtin.clear_, run_underlying hu'], r, Ext.refl _ _ _ _⟩
    · cases hd; cases e
      exact ⟨w, by simp [Builtin.clear_, run_underlying hu'], r, Ext.refl _ _ _ _⟩
    · rename_i id off len cap
      cases hd with | sl _ _ c _ hb hl hc =>
      rename_i bb
      split at e
      · cases e
        exact ⟨w, by simp [Builtin.clear_, run_underlying hu'], r, Ext.refl _ _ _ _⟩
      · rename_i n0 hn0
        have hn0 : len ≠ 0 := fun h => hn0 h
        split at e
        · rename_i z s hz hs
          split at e
          · rename_i hzs
            have hzs := beq_eq' hzs
            obtain ⟨i, zc, hi, hic, hrun, hv⟩ := zero_ok hT hz w
            have hvc := (hv ρ w).cells
            obtain ⟨w', s1, s2, s3⟩ := wr_ok e (P := P) r hb (hvc.rep len)
            refine ⟨w', ?_, s2, s3⟩
            have hzr : (Builtin.zeroCells zc.cells len).toList = rep len zc.cells.toList := by
              rcases Nat.eq_zero_or_pos zc.cells.toList.length with h0 | h0
              · have : zc.cells.toList = [] := List.eq_nil_of_length_eq_zero h0
                rw [this]
                have h1 : zc.cells.size = 0 := by simpa using h0
                have h2 : ∀ n, rep n ([] : List Value) = [] := fun n => by
                  induction n with
                  | zero => rfl
                  | succ n ih => simp [rep, ih]
                rw [h2]
                simp [Builtin.zeroCells, h1]
              · have := rep_range (z := zc.cells.toList) h0 len
                rw [← this]
                simp [Builtin.zeroCells]
            obtain ⟨m, rfl⟩ : ∃ m, len = m + 1 := ⟨len - 1, by omega⟩
            simp [Builtin.clear_, run_underlying hu', hrun, hzr, s1]
          · cases e
        · cases e
    · cases e
  · cases e

omit hT in
theorem freeze_heap {w : World} {b n : Nat} {cs : List Value} {e : TypeId} (h : w.heap[b]? = some (.cells cs.toArray e (0, 0))) :
    (w.freeze ⟨b, n, none⟩ 1).heap = w.heap.setIfInBounds b (.cells cs.toArray e (n, n + 1)) := by
  have hlt : b < w.heap.size := by
    rcases Nat.lt_or_ge b w.heap.size with hl | hl
    · exact hl
    · rw [Array.getElem?_eq_none hl] at h; cases h
  apply Array.ext_getElem?
  intro j
  simp only [World.freeze, Nat.one_ne_zero, if_false, Array.getElem?_modify, Array.getElem?_setIfInBounds]
  split
  · rename_i ej; subst ej
    rw [h]; simp [hlt]
  · rfl

omit hT in
/-- the loop over the cells -/
theorem bytes_loop (F : Value → ByteArray → Sem (ForInStep ByteArray)) (hF : ∀ n s, F (.int .u8 n) s = pure (.yield (s.push (UInt8.ofNat n.toNat)))) :
    ∀ (xs : List AVal) (cs : List Value) (l : List Nat) (acc : ByteArray), VL ρ w xs cs → omap byteOfCell? xs = some l →
      ∃ acc', ((forIn cs.toArray acc F).run P w).andThen (fun a w' => Sem.run P (pure (Value.string a)) w') = .ok (.string acc') w ∧ strOf acc' = strOf acc ++ l := by
  intro xs
  induction xs with
  | nil =>
    intro cs l acc hv hom
    cases cs with
    | nil => simp [omap] at hom; subst hom; exact ⟨acc, by simp, by simp⟩
    | cons c cs => have := hv.1; simp at this
  | cons x xs ih =>
    intro cs l acc hv hom
    cases cs with
    | nil => have := hv.1; simp at this
    | cons c cs =>
      obtain ⟨hxc, hvs⟩ := hv.tail
      simp only [omap] at hom
      split at hom
      · cases hom
      · rename_i b hb
        split at hom
        · cases hom
        · rename_i l' hl'
          cases hom
          unfold byteOfCell? at hb
          split at hb
          · rename_i n
            cases hxc; cases hb
            obtain ⟨acc', a1, a2⟩ := ih cs l' (acc.push (UInt8.ofNat n.toNat)) hvs hl'
            refine ⟨acc', ?_, ?_⟩
            · rw [← a1]
              simp [hF]
            · rw [a2]
              simp [strOf, ByteArray.push, UInt8.toNat_ofNat']
          · cases hb

theorem opConvert_ok {rid : Nat} {src dst : TypeId} {x v : AVal} {h' : Heap} (e : opConvert T h rid src dst x = some (v, h')) (r : Rel ρ h w) (hr : ρ rid = none ∧ rid < h.next) {c : Value} (hx : V ρ w x c) :
    ∃ ρ' w' q, (convert src dst c).run P w = .ok q w' ∧ Rel ρ' h' w' ∧ V ρ' w' v q ∧ Ext (· = rid) ρ h w ρ' h' w' := by
  unfold opConvert at e
  split at e
  · rename_i d k k' n hs hd
    cases hx; cases e
    exact ⟨ρ, w, .int k (k.wrap n), by simp [convert, run_underlying (und_ok hT hs), run_underlying (und_ok hT hd), Conv.intToInt], r, .int _ _, Ext.refl _ _ _ _⟩
  · rename_i d l hs hd
    cases hx with | str s _ hst =>
    cases e
    refine ⟨ρ, w, .string s, ?_, r, .str _ _ hst, Ext.refl _ _ _ _⟩
    cases d <;> simp [convert, run_underlying (und_ok hT hs), run_underlying (und_ok hT hd)]
  · rename_i el l hs hd
    cases hx with | str s _ hst =>
    split at e
    · rename_i hel
      cases e
      let w1 : World := w.drew
      let cap := (Question.appendCap s.size 0 el).cut (w.tape w.drawn (Question.appendCap s.size 0 el))
      have hcap : s.size ≤ cap := by show s.size ≤ s.size + _; omega
      let cs : List Value := s.data.toList.map (fun b => Value.int .u8 b.toNat) ++ List.replicate (cap - s.size) (.int .u8 0)
      have hcl : cs.length = cap := by
        have : s.data.toList.length = s.size := by simp
        simp [cs]; omega
      let w2 : World := w1.alloc (.cells cs.toArray el)
      have hw2 : w2.heap = w.heap.push (.cells cs.toArray el) := rfl
      have hblk : w2.heap[w.heap.size]? = some (.cells cs.toArray el (0, 0)) := by rw [hw2]; simp
      let w3 : World := w2.freeze ⟨w.heap.size, cap, none⟩ 1
      have hw3 : w3.heap = w.heap.push (.cells cs.toArray el (cap, cap + 1)) := by
        rw [freeze_heap hblk, hw2]
        apply Array.ext_getElem?
        intro j
        rw [Array.getElem?_setIfInBounds, Array.getElem?_push, Array.getElem?_push]
        by_cases hj : w.heap.size = j
        · subst hj; simp
        · rw [if_neg hj]
          by_cases hj2 : j = w.heap.size
          · exact absurd hj2.symm hj
          · rw [if_neg hj2, if_neg hj2]
      have hf : ∀ (W : World) a n, (W.freeze a n).tape = W.tape ∧ (W.freeze a n).os = W.os ∧ (W.freeze a n).output = W.output := fun W a n => by unfold World.freeze; split <;> exact ⟨rfl, rfl, rfl⟩
      have hv : VL ρ w (l.map fun b => AVal.int .u8 (Int.ofNat b)) (s.data.toList.map fun b => Value.int .u8 b.toNat) := by
        subst hst
        refine ⟨by simp, fun i x c hx hc => ?_⟩
        rw [List.getElem?_map, List.getElem?_map] at hx
        rw [List.getElem?_map] at hc
        cases hb : s.data.toList[i]? with
        | none => rw [hb] at hc; simp at hc
        | some b => rw [hb] at hc hx; simp at hc hx; subst hc; subst hx; exact .int _ _
      have hOR : OR ρ w (.cells (l.map fun b => AVal.int .u8 (Int.ofNat b)) el true) (.cells cs.toArray el (cap, cap + 1)) := by
        refine OR.mk_cells (by simp) (by rw [hv.1]; simp [cs]) ?_ (fun i hi => by rw [hcl] at hi; simp; omega)
        rw [hv.1]
        simpa [cs] using hv
      obtain ⟨n1, n2, n3⟩ := r.new (w' := w3) hr.1 hr.2 hw3 (hf _ _ _).1 (hf _ _ _).2.1 (hf _ _ _).2.2 hOR
      refine ⟨_, w3, .slice (some ⟨w.heap.size, 0, none⟩) s.size cap, ?_, n1, ?_, n2⟩
      · have hq : (Question.appendCap s.size 0 el).forced = false := rfl
        have harr : (s.data.map (fun b => Value.int .u8 b.toNat) ++ Array.replicate (cap - s.size) (Value.int .u8 0)) = cs.toArray := by
          apply Array.ext'; simp [cs]
        have hshape : w2.shape? w.heap.size = some (el, cap) := by rw [shape_block hblk, hcl]
        simp only [convert, Sem.run_bind, run_underlying (und_ok hT hs), run_underlying (und_ok hT hd), Result.andThen_ok, run_underlying (und_ok hT hel), Conv.stringToBytes, run_choose, hq, Bool.false_eq_true, if_false]
        rw [show (Question.appendCap s.size 0 el).cut (w.tape w.drawn (Question.appendCap s.size 0 el)) = cap from rfl]
        simp only [Result.andThen_ok, newRow, Sem.run_bind, run_newObj, Sem.run_pure, markStringish, run_shape]
        rw [harr]
        have e1 : ({ ({ w with drawn := w.drawn + 1 } : World) with heap := ({ w with drawn := w.drawn + 1 } : World).heap.push (Obj.cells cs.toArray el) } : World) = w2 := rfl
        rw [e1]
        rw [show ({ w with drawn := w.drawn + 1 } : World).heap.size = w.heap.size from rfl, hshape]
        rfl
      · have hls : l.length = s.size := by rw [← hst]; simp
        rw [hls]
        refine .sl _ _ _ _ n3 hcap ⟨by omega, el, cs.length, ?_, by rw [hcl]; omega⟩
        exact shape_block (fz := (cap, cap + 1)) (by rw [hw3]; simp)
    · cases e
  · rename_i el hs hd
    cases hx
    split at e
    · rename_i hel
      cases e
      refine ⟨ρ, w, .string .empty, ?_, r, .str _ _ rfl, Ext.refl _ _ _ _⟩
      simp [convert, run_underlying (und_ok hT hs), run_underlying (und_ok hT hd), run_underlying (und_ok hT hel), Conv.bytesToString]
    · cases e
  · rename_i el id off len cap hs hd
    cases hx with | sl _ _ c _ hb hl hc =>
    rename_i bb
    split at e
    · rename_i row hel hrow
      split at e
      · rename_i cs htk
        split at e
        · rename_i l hom
          cases e
          obtain ⟨hle, rfl⟩ := takeN_some htk
          obtain ⟨ty, g, ho⟩ := rowOf_some hrow
          obtain ⟨bcs, fz, hblk, _, hlen, hv, _⟩ := r.row ho hb
          have hld := run_loadCells_at (P := P) (n := len) (off := off) hblk (by omega)
          have hvt := (hv.drop off).take len
          rw [drop_take_take bcs _ _ _ hle] at hvt
          generalize hcc : (bcs.drop off).take len = ccs at hvt hld
          generalize hxx : (row.drop off).take len = xxs at hvt hom
          clear hcc hxx hle hlen
          have hb : ∃ acc', (Conv.bytesToString (.slice (some ⟨bb, off, none⟩) len c)).run P w = .ok (.string acc') w ∧ strOf acc' = l := by
            simp only [Conv.bytesToString, Sem.run_bind, hld, Result.andThen_ok]
            exact bytes_loop _ (fun _ _ => rfl) xxs ccs l .empty hvt hom
          obtain ⟨acc', a1, a2⟩ := hb
          refine ⟨ρ, w, .string acc', ?_, r, .str _ _ a2, Ext.refl _ _ _ _⟩
          simp only [convert, Sem.run_bind, run_underlying (und_ok hT hs), run_underlying (und_ok hT hd), Result.andThen_ok, run_underlying (und_ok hT hel)]
          exact a1
        · cases e
      · cases e
    · cases e
  · cases e

end
end Cv
