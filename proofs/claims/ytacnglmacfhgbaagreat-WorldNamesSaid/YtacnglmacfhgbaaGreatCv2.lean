/-
  An evaluator over abstract values, of use to every statement of this seat: loads, stores, fields, slices, numbers and comparisons are as the machine does them. No condition.
-/
import Derived.Test.YtacnglmacfhgbaaGreatCv1
import Derived.Laws.Cells
import Derived.Laws.StructEq
import Derived.Laws.Slices
import Derived.Laws.Shifts

/- Soundness: memory's own operations. -/
set_option linter.unusedVariables false
set_option linter.unusedSimpArgs false
namespace Cv
open Go

structure TabOk (T : Tab) (P : Program) : Prop where
  ty : ∀ t i, T.ty.get t = some i → P.info? t = some i
  fn : ∀ f g, T.fn.get f = some g → P.funcs[f]? = some g
  nm : ∀ (f : Nat) (g : Func), P.funcs[f]? = some g → (g.name == "runtime.NumGoroutine") = false
  sok : ∀ t, T.sok t = true → P.stoodInHeld t = false ∧ P.eqGuardType P.depth t = false ∧ ∀ f ∈ (P.fieldsOf t).toList, f.name ≠ "_"
  mixed : P.follows .mixedOrders = true
  gc : ∀ f h, (∀ id o, (T.gc f h).get id = some o → h.get id = some o) ∧ (T.gc f h).next = h.next

section
variable {T : Tab} {P : Program} (hT : TabOk T P)
include hT

theorem und_ok {t : TypeId} {d : TypeDesc} (h : T.und t = some d) : P.underlying t = some d := by
  unfold Tab.und at h
  split at h
  · rename_i i hi
    have h1 := hT.ty _ _ hi
    split at h
    · rename_i s u hd
      split at h
      · rename_i j hj
        have h2 := hT.ty _ _ hj
        cases i
        simp only at hd
        subst hd
        simp [Program.underlying, h1, h2]
        simpa using h
      · cases h
    · rename_i d' hn
      simp only [Program.underlying, h1]
      cases i with | mk desc _ _ _ _ _ _ _ _ _ =>
      cases desc <;> first | (simp only at hn; exact absurd rfl (hn _ _)) | simpa using h
  · cases h

theorem size_ok {t : TypeId} {n : Nat} (h : T.size t = some n) (w : World) : (Go.sizeOf t).run P w = .ok n w := by
  unfold Tab.size at h
  split at h
  · rename_i i hi
    have h1 := hT.ty _ _ hi
    simp at h
    simp [Go.sizeOf, typeInfo, h1, h]
  · cases h

theorem info_ok {t : TypeId} {i : TypeInfo} (h : T.ty.get t = some i) (w : World) : (typeInfo t).run P w = .ok i w := by
  simp [typeInfo, hT.ty _ _ h]

theorem isAgg_ok {t : TypeId} {b : Bool} (h : T.isAgg t = some b) (w : World) : (isAgg t).run P w = .ok b w := by
  unfold Tab.isAgg at h
  split at h
  · rename_i hu; simp at h; subst h; simp [isAgg, run_underlying (und_ok hT hu)]
  · rename_i hu; simp at h; subst h; simp [isAgg, run_underlying (und_ok hT hu)]
  · rename_i d hns hna hu
    simp at h; subst h
    simp only [isAgg, Sem.run_bind, run_underlying (und_ok hT hu), Result.andThen_ok]
    cases d <;> first | rfl | exact absurd rfl (hns _) | exact absurd rfl (hna _ _)
  · cases h
end

/-! ### Scalars -/

theorem V.scal {ρ : Ren} {w : World} {v : AVal} {c : Value} (h : V ρ w v c) : c.oneCell' = v.scal := by
  cases h <;> rfl

theorem V.cells {ρ : Ren} {w : World} {v : AVal} {c : Value} (h : V ρ w v c) : VL ρ w v.cells c.cells.toList := by
  cases h with
  | agg xs cs hx hxs => simp only [AVal.cells, Value.cells]; exact ⟨by simpa using hx, by simpa using hxs⟩
  | _ =>
    refine ⟨rfl, fun i x c hx hc => ?_⟩
    cases i with
    | zero =>
      simp [AVal.cells] at hx
      simp [Value.cells] at hc
      subst hx; subst hc
      constructor <;> assumption
    | succ i => simp [AVal.cells] at hx

theorem allScal_ok {ρ : Ren} {w : World} {xs : List AVal} {cs : List Value} (h : VL ρ w xs cs) (ha : allScal xs = true) : ∀ c ∈ cs, c.oneCell' = true := by
  induction xs generalizing cs with
  | nil => cases cs with
    | nil => simp
    | cons c cs => have := h.1; simp at this
  | cons x xs ih => cases cs with
    | nil => simp
    | cons c cs =>
      simp only [allScal] at ha
      split at ha
      · rename_i hx
        intro d hd
        rcases List.mem_cons.1 hd with e | hd
        · subst e; rw [V.scal (h.2 0 x d (by simp) (by simp))]; exact hx
        · exact ih ⟨by have := h.1; simpa using this, fun i y e hy he => h.2 (i + 1) y e (by simpa using hy) (by simpa using he)⟩ ha d hd
      · cases ha

theorem allScal_mem {xs : List AVal} (ha : allScal xs = true) : ∀ x ∈ xs, x.scal = true := by
  induction xs with
  | nil => simp
  | cons x xs ih =>
    simp only [allScal] at ha
    split at ha
    · rename_i hx
      intro d hd
      rcases List.mem_cons.1 hd with e | hd
      · subst e; exact hx
      · exact ih ha d hd
    · cases ha

theorem VL.nil (ρ : Ren) (w : World) : VL ρ w [] [] := ⟨rfl, by simp⟩
theorem VL.cons {ρ : Ren} {w : World} {x : AVal} {c : Value} {xs : List AVal} {cs : List Value} (h : V ρ w x c) (hs : VL ρ w xs cs) : VL ρ w (x :: xs) (c :: cs) :=
  ⟨by simp [hs.1], fun i y d hy hd => by
    cases i with
    | zero => simp at hy hd; subst hy; subst hd; exact h
    | succ i => exact hs.2 i y d (by simpa using hy) (by simpa using hd)⟩
theorem VL.tail {ρ : Ren} {w : World} {x : AVal} {c : Value} {xs : List AVal} {cs : List Value} (h : VL ρ w (x :: xs) (c :: cs)) : V ρ w x c ∧ VL ρ w xs cs :=
  ⟨h.2 0 x c (by simp) (by simp), by have := h.1; simpa using this, fun i y d hy hd => h.2 (i + 1) y d (by simpa using hy) (by simpa using hd)⟩
theorem VL.append {ρ : Ren} {w : World} {xs ys : List AVal} {cs ds : List Value} (h : VL ρ w xs cs) (k : VL ρ w ys ds) : VL ρ w (xs ++ ys) (cs ++ ds) := by
  induction xs generalizing cs with
  | nil => cases cs with
    | nil => exact k
    | cons c cs => have := h.1; simp at this
  | cons x xs ih => cases cs with
    | nil => have := h.1; simp at this
    | cons c cs => exact .cons h.tail.1 (ih h.tail.2)
theorem VL.drop {ρ : Ren} {w : World} {xs : List AVal} {cs : List Value} (h : VL ρ w xs cs) (n : Nat) : VL ρ w (xs.drop n) (cs.drop n) :=
  ⟨by simp [h.1], fun i y d hy hd => h.2 (n + i) y d (by simpa using hy) (by simpa using hd)⟩
theorem VL.take {ρ : Ren} {w : World} {xs : List AVal} {cs : List Value} (h : VL ρ w xs cs) (n : Nat) : VL ρ w (xs.take n) (cs.take n) :=
  ⟨by simp [h.1], fun i y d hy hd => by
    rw [List.getElem?_take] at hy hd
    split at hy
    · rename_i hi; rw [if_pos hi] at hd; exact h.2 i y d hy hd
    · cases hy⟩
theorem VL.upd {ρ : Ren} {w : World} {xs ys : List AVal} {cs ds : List Value} (h : VL ρ w xs cs) (k : VL ρ w ys ds) (n : Nat) (hn : n + ys.length ≤ xs.length) : VL ρ w (upd xs n ys) (upd cs n ds) := by
  have hn' : n + ds.length ≤ cs.length := by rw [← k.1, ← h.1]; exact hn
  refine ⟨by rw [upd_length, upd_length, h.1], fun i y d hy hd => ?_⟩
  rw [upd_get _ _ _ _ hn] at hy
  rw [upd_get _ _ _ _ hn'] at hd
  rw [← k.1] at hd
  split at hy
  · rename_i hc; rw [if_pos hc] at hd; exact k.2 _ _ _ hy hd
  · rename_i hc; rw [if_neg hc] at hd; exact h.2 _ _ _ hy hd
theorem VL.rep {ρ : Ren} {w : World} {xs : List AVal} {cs : List Value} (h : VL ρ w xs cs) : ∀ n, VL ρ w (rep n xs) (rep n cs)
  | 0 => .nil _ _
  | n + 1 => h.append (VL.rep h n)
theorem VL.get {ρ : Ren} {w : World} {xs : List AVal} {cs : List Value} (h : VL ρ w xs cs) {i : Nat} {x : AVal} (hx : xs[i]? = some x) : ∃ c, cs[i]? = some c ∧ V ρ w x c := by
  have hlt : i < cs.length := by
    rw [← h.1]
    rcases Nat.lt_or_ge i xs.length with hl | hl
    · exact hl
    · rw [List.getElem?_eq_none hl] at hx; cases hx
  exact ⟨cs[i], by simp [hlt], h.2 i x _ hx (by simp [hlt])⟩

/-! ### Constants -/

theorem ofScal_ok {c : Value} {v : AVal} (h : ofScal c = some v) (ρ : Ren) (w : World) : V ρ w v c := by
  unfold ofScal at h
  split at h <;> simp at h <;> subst h
  · exact .bool _
  · exact .int _ _
  · exact .str _ _ rfl
  · exact .nilp
  · exact .nils
  · exact .nilm
  · exact .nilf
  · exact .nili

theorem omap_VL {ρ : Ren} {w : World} {cs : List Value} {l : List AVal} (h : omap ofScal cs = some l) : VL ρ w l cs := by
  have := omap_some h
  refine ⟨this.1, fun i x c hx hc => ?_⟩
  obtain ⟨a, h1, h2⟩ := this.2 i x hx
  rw [hc] at h1
  cases h1
  exact ofScal_ok h2 ρ w

theorem ofConst_ok {c : Value} {v : AVal} (h : ofConst c = some v) (ρ : Ren) (w : World) : V ρ w v c := by
  unfold ofConst at h
  split at h
  · rename_i cs
    split at h
    · rename_i l hl
      simp at h; subst h
      have := omap_VL (ρ := ρ) (w := w) hl
      have e : cs = cs.toList.toArray := by simp
      rw [e]; exact .agg _ _ this.1 this.2
    · cases h
  · rename_i cs
    split at h
    · rename_i l hl
      simp at h; subst h
      have := omap_VL (ρ := ρ) (w := w) hl
      have e : cs = cs.toList.toArray := by simp
      rw [e]; exact .tup _ _ this.1 this.2
    · cases h
  · exact ofScal_ok h ρ w

theorem zero_ok {T : Tab} {P : Program} (hT : TabOk T P) {t : TypeId} {z : AVal} (h : T.zero t = some z) (w : World) :
    ∃ i c, P.info? t = some i ∧ i.zero = some c ∧ (zeroValue t).run P w = .ok c w ∧ ∀ (ρ : Ren) (w' : World), V ρ w' z c := by
  unfold Tab.zero at h
  split at h
  · rename_i i hi
    split at h
    · rename_i c hc
      have := hT.ty _ _ hi
      exact ⟨i, c, this, hc, by simp [zeroValue, typeInfo, this, hc], fun ρ w => ofConst_ok h ρ w⟩
    · cases h
  · cases h

/-! ### Blocks of cells -/

theorem cell_at {w : World} {b off : Nat} {cs : List Value} {e : TypeId} {fz : Nat × Nat} (h : w.heap[b]? = some (.cells cs.toArray e fz)) : w.cell? ⟨b, off, none⟩ = cs[off]? := by
  simp [World.cell?, h]

theorem run_load_at {P : Program} {w : World} {b off : Nat} {cs : List Value} {e : TypeId} {fz : Nat × Nat} {c : Value} (h : w.heap[b]? = some (.cells cs.toArray e fz)) (hc : cs[off]? = some c) :
    (load ⟨b, off, none⟩).run P w = .ok c w := by
  rw [run_load, cell_at h, hc]

theorem run_loadCells_at {P : Program} {w : World} {b off n : Nat} {cs : List Value} {e : TypeId} {fz : Nat × Nat} (h : w.heap[b]? = some (.cells cs.toArray e fz)) (hn : off + n ≤ cs.length) :
    (loadCells ⟨b, off, none⟩ n).run P w = .ok ((cs.drop off).take n).toArray w := by
  have := run_loadCells_list (P := P) (w := w) ⟨b, off, none⟩ ((cs.drop off).take n) (fun j v hv => by
    rw [Addr.add_lit, cell_at h]
    rw [List.getElem?_take] at hv
    split at hv
    · simpa using hv
    · cases hv)
  have hl : ((cs.drop off).take n).length = n := by simp; omega
  rw [hl] at this
  exact this

theorem setIfInBounds_same {α : Type} (a : Array α) (i : Nat) (x : α) (h : a[i]? = some x) : a.setIfInBounds i x = a := by
  apply Array.ext_getElem?
  intro j
  rw [Array.getElem?_setIfInBounds]
  split
  · rename_i e; subst e
    have : i < a.size := by
      rcases Nat.lt_or_ge i a.size with hl | hl
      · exact hl
      · rw [Array.getElem?_eq_none hl] at h; cases h
    rw [if_pos this, h]
  · rfl

theorem setCell_heap {w : World} {b off : Nat} {cs : List Value} {e : TypeId} {fz : Nat × Nat} (v : Value) (h : w.heap[b]? = some (.cells cs.toArray e fz)) :
    (w.setCell ⟨b, off, none⟩ v).heap = w.heap.setIfInBounds b (.cells (cs.set off v).toArray e fz) := by
  have hlt : b < w.heap.size := by
    rcases Nat.lt_or_ge b w.heap.size with hl | hl
    · exact hl
    · rw [Array.getElem?_eq_none hl] at h; cases h
  apply Array.ext_getElem?
  intro j
  simp only [World.setCell, Array.getElem?_modify, Array.getElem?_setIfInBounds]
  split
  · rename_i ej; subst ej
    rw [h]; simp [hlt]
  · rfl

theorem run_storeCells_at' {P : Program} {b : Nat} {e : TypeId} {fz : Nat × Nat} (off : Nat) : ∀ (vs : List Value) (i : Nat) (cs : List Value) (w : World), w.heap[b]? = some (.cells cs.toArray e fz) →
    off + i + vs.length ≤ cs.length → (∀ v ∈ vs, v.oneCell' = true) → (∀ j, j < cs.length → ¬ (fz.1 ≤ j ∧ j < fz.2)) →
    ∃ w', (storeCells ⟨b, off, none⟩ vs i).run P w = .ok () w' ∧ w'.heap = w.heap.setIfInBounds b (.cells (upd cs (off + i) vs).toArray e fz) ∧ w'.tape = w.tape ∧ w'.os = w.os ∧ w'.output = w.output
  | [], i, cs, w, h, hl, hv, hf => ⟨w, by simp [storeCells], by rw [upd_nil]; exact (setIfInBounds_same _ _ _ h).symm, rfl, rfl, rfl⟩
  | v :: vs, i, cs, w, h, hl, hv, hf => by
    simp only [List.length_cons] at hl
    have hc : cs[off + i]? = some (cs[off + i]'(by omega)) := by simp
    have hfr : w.frozen? ⟨b, off + i, none⟩ = false := by
      simp only [World.frozen?, h]
      have := hf (off + i) (by omega)
      simp only [Bool.and_eq_false_iff, decide_eq_false_iff_not]
      by_cases h1 : fz.1 ≤ off + i
      · right; intro h2; exact this ⟨h1, h2⟩
      · left; exact h1
    have hst : (store ⟨b, off + i, none⟩ v).run P w = .ok () (w.setCell ⟨b, off + i, none⟩ v) := by
      rw [run_store P w _ _ _ (hv v (by simp)), cell_at h, hc]
      simp [hfr]
    have hh := setCell_heap (off := off + i) v h
    have hlt : b < w.heap.size := by
      rcases Nat.lt_or_ge b w.heap.size with hl | hl
      · exact hl
      · rw [Array.getElem?_eq_none hl] at h; cases h
    have h1 : (w.setCell ⟨b, off + i, none⟩ v).heap[b]? = some (.cells (cs.set (off + i) v).toArray e fz) := by
      rw [hh, Array.getElem?_setIfInBounds, if_pos rfl, if_pos hlt]
    obtain ⟨w', r1, r2, r3, r4, r5⟩ := run_storeCells_at' (P := P) off vs (i + 1) (cs.set (off + i) v) (w.setCell ⟨b, off + i, none⟩ v) h1 (by simp; omega) (fun x hx => hv x (by simp [hx])) (by simpa using hf)
    refine ⟨w', ?_, ?_, r3, r4, r5⟩
    · simp only [storeCells, Sem.run_bind, Addr.add_lit, hst, Result.andThen_ok]
      exact r1
    · rw [r2, hh, upd_cons]
      apply Array.ext_getElem?
      intro j
      simp only [Array.getElem?_setIfInBounds, Array.size_setIfInBounds]
      split <;> rfl

theorem OR.inv_cells {ρ : Ren} {w : World} {xs : List AVal} {ty : TypeId} {g : Bool} {c : Obj} (h : OR ρ w (.cells xs ty g) c) :
    ∃ (cs : List Value) (fz : Nat × Nat), c = .cells cs.toArray ty fz ∧ (g = false → xs.length = cs.length) ∧ xs.length ≤ cs.length ∧ VL ρ w xs (cs.take xs.length) ∧ (∀ i, i < cs.length → ¬ (fz.1 ≤ i ∧ i < fz.2)) := by
  cases h with
  | cells _ _ _ cs fz hg hlen hxs hfz =>
    refine ⟨cs, fz, rfl, hg, hlen, ⟨by simp; omega, fun i x c hx hc => ?_⟩, hfz⟩
    rw [List.getElem?_take] at hc
    split at hc
    · exact hxs i x c hx hc
    · cases hc

theorem OR.mk_cells {ρ : Ren} {w : World} {xs : List AVal} {ty : TypeId} {g : Bool} {cs : List Value} {fz : Nat × Nat} (hg : g = false → xs.length = cs.length) (hl : xs.length ≤ cs.length)
    (hv : VL ρ w xs (cs.take xs.length)) (hf : ∀ i, i < cs.length → ¬ (fz.1 ≤ i ∧ i < fz.2)) : OR ρ w (.cells xs ty g) (.cells cs.toArray ty fz) :=
  .cells xs ty g cs fz hg hl (fun i x c hx hc => hv.2 i x c hx (by
    have : i < xs.length := by
      rcases Nat.lt_or_ge i xs.length with h | h
      · exact h
      · rw [List.getElem?_eq_none h] at hx; cases hx
    rw [List.getElem?_take, if_pos this]; exact hc)) hf

/-- an object's block -/
theorem Rel.row {ρ : Ren} {h : Heap} {w : World} (r : Rel ρ h w) {id b : Nat} {xs : List AVal} {ty : TypeId} {g : Bool} (ho : h.get id = some (.cells xs ty g)) (hb : ρ id = some b) :
    ∃ (cs : List Value) (fz : Nat × Nat), w.heap[b]? = some (.cells cs.toArray ty fz) ∧ (g = false → xs.length = cs.length) ∧ xs.length ≤ cs.length ∧ VL ρ w xs (cs.take xs.length) ∧ (∀ i, i < cs.length → ¬ (fz.1 ≤ i ∧ i < fz.2)) := by
  obtain ⟨b', c, h1, h2, h3⟩ := r.obj id _ ho
  rw [hb] at h1; cases h1
  obtain ⟨cs, fz, e, q⟩ := h3.inv_cells
  exact ⟨cs, fz, e ▸ h2, q⟩

theorem rowOf_some {h : Heap} {id : Nat} {xs : List AVal} (e : rowOf h id = some xs) : ∃ ty g, h.get id = some (.cells xs ty g) := by
  unfold rowOf at e
  split at e
  · rename_i xs' ty g hh; simp at e; subst e; exact ⟨ty, g, hh⟩
  · cases e

theorem ble_le {a b : Nat} (h : Nat.ble a b = true) : a ≤ b := Nat.le_of_ble_eq_true h
theorem blt_lt {a b : Nat} (h : Nat.blt a b = true) : a < b := Nat.le_of_ble_eq_true h
theorem beq_eq' {a b : Nat} (h : Nat.beq a b = true) : a = b := Nat.eq_of_beq_eq_true h

theorem takeN_some {xs : List AVal} {off n : Nat} {l : List AVal} (e : takeN xs off n = some l) : off + n ≤ xs.length ∧ l = (xs.drop off).take n := by
  unfold takeN at e
  split at e
  · rename_i h; exact ⟨ble_le h, by simpa using e.symm⟩
  · cases e

theorem drop_take_take {α : Type} (cs : List α) (m off n : Nat) (h : off + n ≤ m) : ((cs.take m).drop off).take n = (cs.drop off).take n := by
  apply List.ext_getElem?
  intro i
  simp only [List.getElem?_take, List.getElem?_drop]
  split
  · rw [if_pos (by omega)]
  · rfl

/-- reading -/
theorem opLoad_ok {T : Tab} {P : Program} (hT : TabOk T P) {h : Heap} {t : TypeId} {a v : AVal} (e : opLoad T h t a = some v) {ρ : Ren} {w : World} (r : Rel ρ h w) {c : Value} (ha : V ρ w a c) :
    ∃ d, (Instr.loadAt t c).run P w = .ok d w ∧ V ρ w v d ∧ ∃ ad, c = .pointer (some ad) ∧ (loadVar t ad).run P w = .ok d w := by
  unfold opLoad at e
  split at e
  · rename_i id off
    cases ha with
    | ptr _ hb =>
      rename_i b
      suffices hs : ∃ d, (loadVar t ⟨b, off, none⟩).run P w = .ok d w ∧ V ρ w v d by
        obtain ⟨d, h1, h2⟩ := hs
        exact ⟨d, by simp [Instr.loadAt, Instr.sureAddr, h1], h2, _, rfl, h1⟩
      split at e
      · cases e
      · rename_i xs hrow
        obtain ⟨ty, g, ho⟩ := rowOf_some hrow
        obtain ⟨cs, fz, hblk, _, hlen, hv, _⟩ := r.row ho hb
        split at e
        · rename_i hagg
          split at e
          · rename_i s hs
            split at e
            · rename_i l hl
              obtain ⟨hle, rfl⟩ := takeN_some hl
              simp at e; subst e
              have hd := run_loadCells_at (P := P) (n := s) (off := off) hblk (by omega)
              refine ⟨.agg ((cs.drop off).take s).toArray, by simp [loadVar, isAgg_ok hT hagg, size_ok hT hs, hd], ?_⟩
              have := (hv.drop off).take s
              rw [drop_take_take cs _ _ _ hle] at this
              exact .agg _ _ this.1 this.2
            · cases e
          · cases e
        · rename_i hagg
          rw [nth_eq] at e
          obtain ⟨d, hd, hvd⟩ := hv.get e
          refine ⟨d, ?_, hvd⟩
          have : cs[off]? = some d := by
            rw [List.getElem?_take] at hd
            split at hd
            · exact hd
            · cases hd
          simp only [loadVar, Sem.run_bind, isAgg_ok hT hagg, Result.andThen_ok, Bool.false_eq_true, if_false]
          exact run_load_at hblk this
        · cases e
  · cases e

theorem upd_take {α : Type} (cs : List α) (n off : Nat) (ds : List α) (h : off + ds.length ≤ n) (hn : n ≤ cs.length) : upd (cs.take n) off ds = (upd cs off ds).take n := by
  apply List.ext_getElem?
  intro i
  have e1 : off + ds.length ≤ (cs.take n).length := by simp; omega
  have e2 : off + ds.length ≤ cs.length := by omega
  rw [upd_get _ _ _ _ e1, List.getElem?_take, List.getElem?_take, upd_get _ _ _ _ e2]
  by_cases hc : off ≤ i ∧ i < off + ds.length
  · rw [if_pos hc, if_pos (by omega), if_pos hc]
  · rw [if_neg hc, if_neg hc]

/-- writing -/
theorem wr_ok {h h' : Heap} {id off : Nat} {vs : List AVal} (e : wr h id off vs = some h') {P : Program} {ρ : Ren} {w : World} (r : Rel ρ h w) {b : Nat} (hb : ρ id = some b) {ds : List Value} (hv : VL ρ w vs ds) :
    ∃ w', (storeCells ⟨b, off, none⟩ ds 0).run P w = .ok () w' ∧ Rel ρ h' w' ∧ Ext (fun _ => False) ρ h w ρ h' w' := by
  unfold wr at e
  split at e
  · rename_i hsc
    split at e
    · rename_i xs ty g ho
      split at e
      · rename_i hle
        have hle := ble_le hle
        simp at e; subst e
        obtain ⟨cs, fz, hblk, hg, hlen, hxs, hfz⟩ := r.row ho hb
        have hle' : off + vs.length ≤ xs.length := hle
        have hl : off + 0 + ds.length ≤ cs.length := by rw [← hv.1]; omega
        obtain ⟨w', h1, h2, h3, h4, h5⟩ := run_storeCells_at' (P := P) off ds 0 cs w hblk hl (allScal_ok hv hsc) hfz
        have := r.turn (o' := .cells (upd xs off vs) ty g) ho hb hblk h2 h3 h4 h5 (fun e' n he => by
            have hlt : b < w.heap.size := r.bound _ _ hb
            rw [shape_block hblk] at he
            have h6 : w'.heap[b]? = some (.cells (upd cs (off + 0) ds).toArray ty fz) := by rw [h2, Array.getElem?_setIfInBounds, if_pos rfl, if_pos hlt]
            rw [shape_block h6, upd_length]; exact he) (by
            refine OR.mk_cells (fun hf => by rw [upd_length, upd_length]; exact hg hf) (by rw [upd_length, upd_length]; exact hlen) ?_ (by rw [upd_length]; exact hfz)
            rw [upd_length]
            have h7 := hxs.upd hv off hle'
            have h8 : upd (cs.take xs.length) off ds = (upd cs (off + 0) ds).take xs.length := by
              rw [Nat.add_zero]
              exact upd_take cs xs.length off ds (by rw [← hv.1]; exact hle') hlen
            rw [← h8]; exact h7)
        exact ⟨w', h1, this.1, this.2⟩
      · cases e
    · cases e
  · cases e

theorem opStore_ok {T : Tab} {P : Program} (hT : TabOk T P) {h h' : Heap} {t : TypeId} {a v : AVal} (e : opStore T h t a v = some h') {ρ : Ren} {w : World} (r : Rel ρ h w) {c d : Value} (ha : V ρ w a c) (hv : V ρ w v d) :
    ∃ w', (Instr.storeAt t c d).run P w = .ok () w' ∧ Rel ρ h' w' ∧ Ext (fun _ => False) ρ h w ρ h' w' := by
  unfold opStore at e
  split at e
  · rename_i id off
    cases ha with
    | ptr _ hb =>
      rename_i b
      split at e
      · rename_i s hs
        split at e
        · rename_i hl
          have hl := beq_eq' hl
          have hc := hv.cells
          obtain ⟨w', h1, h2, h3⟩ := wr_ok e (P := P) r hb hc
          refine ⟨w', ?_, h2, h3⟩
          have hsz : d.cells.size = s := by rw [← hl, hc.1]; simp
          simp [Instr.storeAt, Instr.sureAddr, storeVar, size_ok hT hs, hsz, h1]
        · cases e
      · cases e
  · cases e

end Cv

/- Soundness: operations that leave memory as it is. -/
set_option linter.unusedVariables false
set_option linter.unusedSimpArgs false
namespace Cv
open Go

def OV (ρ : Ren) (w : World) (i : Option AVal) (c : Option Value) : Prop := match i, c with | none, none => True | some a, some b => V ρ w a b | _, _ => False


section
variable {T : Tab} {P : Program} (hT : TabOk T P) {ρ : Ren} {h : Heap} {w : World}
include hT

theorem opFieldAddr_ok {s : TypeId} {a v : AVal} {f : Nat} (e : opFieldAddr T s a f = some v) {c : Value} (ha : V ρ w a c) :
    ∃ d, (Instr.fieldAt s c f).run P w = .ok d w ∧ V ρ w v d := by
  unfold opFieldAddr at e
  split at e
  · rename_i id off
    cases ha with
    | ptr _ hb =>
      split at e
      · rename_i fs hu
        split at e
        · rename_i fd hf
          rw [nth_eq] at hf
          have hf' : fs[f]? = some fd := by simpa using hf
          split at e
          · cases e
          · rename_i n hn0 hs
            simp at e; subst e
            refine ⟨_, ?_, .ptr _ hb⟩
            have hne : n ≠ 0 := fun e => by rw [e] at hn0; exact absurd rfl (hn0)
            simp only [Instr.fieldAt, Sem.run_bind, run_underlying (und_ok hT hu), Result.andThen_ok, hf', Instr.sureAddr, Sem.run_pure, fieldPlace, size_ok hT hs, hne, if_false, Addr.add_lit]
          · cases e
        · cases e
      · cases e
  · cases e

theorem partOf_ok {t : TypeId} {xs : List AVal} {off : Nat} {v : AVal} (e : partOf T t xs off = some v) {cs : List Value} (hx : VL ρ w xs cs) :
    ∃ d, (part t cs.toArray off).run P w = .ok d w ∧ V ρ w v d := by
  unfold partOf at e
  split at e
  · rename_i ha
    split at e
    · rename_i s hs
      split at e
      · rename_i l hl
        obtain ⟨hle, rfl⟩ := takeN_some hl
        simp at e; subst e
        have := (hx.drop off).take s
        refine ⟨.agg ((cs.drop off).take s).toArray, ?_, .agg _ _ this.1 this.2⟩
        simp only [part, Sem.run_bind, isAgg_ok hT ha, Result.andThen_ok, if_true, size_ok hT hs, Sem.run_pure]
        congr 2
        rw [List.extract_toArray]
        congr 1
        rw [List.extract_eq_take_drop]
        congr 1
        omega
      · cases e
    · cases e
  · rename_i ha
    rw [nth_eq] at e
    obtain ⟨d, hd, hv⟩ := hx.get e
    refine ⟨d, ?_, hv⟩
    simp [part, isAgg_ok hT ha, hd]
  · cases e

theorem opField_ok {s : TypeId} {a v : AVal} {f : Nat} (e : opField T s a f = some v) {c : Value} (ha : V ρ w a c) :
    ∃ d, (Instr.field s c f).run P w = .ok d w ∧ V ρ w v d := by
  unfold opField at e
  split at e
  · rename_i xs
    cases ha with
    | agg _ cs hx hxs =>
      split at e
      · rename_i fs hu
        split at e
        · rename_i fd hf
          rw [nth_eq] at hf
          have hf' : fs[f]? = some fd := by simpa using hf
          obtain ⟨d, h1, h2⟩ := partOf_ok hT e (cs := cs) ⟨hx, hxs⟩
          exact ⟨d, by simp [Instr.field, run_underlying (und_ok hT hu), hf', asAgg, h1], h2⟩
        · cases e
      · cases e
  · cases e

omit hT in
theorem idx_ok {i : AVal} {len n : Nat} (e : idx i len = some n) {c : Value} (hi : V ρ w i c) : ∃ k, c = .int k n ∧ n < len := by
  unfold idx at e
  split at e
  · rename_i k m
    cases hi
    split at e
    · rename_i hl; simp at e; subst e; exact ⟨k, rfl, blt_lt hl⟩
    · cases e
  · cases e

omit hT in
theorem bnd_ok {i : AVal} {y n : Nat} (e : bnd i y = some n) {c : Value} (hi : V ρ w i c) : ∃ k, c = .int k n ∧ n ≤ y := by
  unfold bnd at e
  split at e
  · rename_i k m
    cases hi
    split at e
    · rename_i hl; simp at e; subst e; exact ⟨k, rfl, ble_le hl⟩
    · cases e
  · cases e

theorem opIndexAddr_ok {t : TypeId} {x i v : AVal} (e : opIndexAddr T t x i = some v) {c d : Value} (hx : V ρ w x c) (hi : V ρ w i d) :
    ∃ r, (Instr.indexAt t c d).run P w = .ok r w ∧ V ρ w v r := by
  unfold opIndexAddr at e
  split at e
  · rename_i len el id off hu
    cases hx with
    | ptr _ hb =>
      split at e
      · rename_i n s hn hs
        simp at e; subst e
        obtain ⟨k, rfl, hlt⟩ := idx_ok hn hi
        refine ⟨_, ?_, .ptr _ hb⟩
        have h1 : (0 : Int) ≤ (n : Int) ∧ (n : Int) < (len : Int) := ⟨by omega, by omega⟩
        simp only [Instr.indexAt, asIntOf, Sem.run_bind, Sem.run_pure, Result.andThen_ok, run_underlying (und_ok hT hu), Instr.sureAddr, h1, and_self, if_true, size_ok hT hs, Int.toNat_natCast, Addr.add_lit]
      · cases e
  · rename_i el id off len cap hu
    cases hx with
    | sl _ _ c _ hb hl hc =>
      split at e
      · rename_i n s hn hs
        simp at e; subst e
        obtain ⟨k, rfl, hlt⟩ := idx_ok hn hi
        refine ⟨_, ?_, .ptr _ hb⟩
        have h1 : (0 : Int) ≤ (n : Int) ∧ (n : Int) < (len : Int) := ⟨by omega, by omega⟩
        simp only [Instr.indexAt, asIntOf, Sem.run_bind, Sem.run_pure, Result.andThen_ok, run_underlying (und_ok hT hu), h1, and_self, if_true, size_ok hT hs, Int.toNat_natCast, Addr.add_lit]
      · cases e
  · cases e

theorem opIndex_ok {t : TypeId} {x i v : AVal} (e : opIndex T t x i = some v) {c d : Value} (hx : V ρ w x c) (hi : V ρ w i d) :
    ∃ r, (Instr.index t c d).run P w = .ok r w ∧ V ρ w v r := by
  unfold opIndex at e
  split at e
  · rename_i len el xs hu
    cases hx with
    | agg _ cs hl hxs =>
      split at e
      · rename_i n s hn hs
        obtain ⟨k, rfl, hlt⟩ := idx_ok hn hi
        obtain ⟨r, h1, h2⟩ := partOf_ok hT e (cs := cs) ⟨hl, hxs⟩
        refine ⟨r, ?_, h2⟩
        have h3 : (0 : Int) ≤ (n : Int) ∧ (n : Int) < (len : Int) := ⟨by omega, by omega⟩
        simp only [Instr.index, asIntOf, Sem.run_bind, Sem.run_pure, Result.andThen_ok, run_underlying (und_ok hT hu), h3, and_self, if_true, size_ok hT hs, Int.toNat_natCast]
        exact h1
      · cases e
  · rename_i l hu
    cases hx with
    | str s _ hs =>
      split at e
      · rename_i n hn
        split at e
        · rename_i b hb
          simp at e; subst e
          obtain ⟨k, rfl, hlt⟩ := idx_ok hn hi
          rw [nth_eq] at hb
          subst hs
          simp at hb
          obtain ⟨u, hu1, hu2⟩ := hb
          have hsz : n < s.size := by simpa using hlt
          have h4 : s[n]? = some u := by
            rw [getElem?_pos s n hsz]
            have : s.data[n]? = some u := by simpa using hu1
            rw [getElem?_pos s.data n (by simpa using hsz)] at this
            exact this
          refine ⟨_, ?_, .int _ _⟩
          simp only [Instr.index, asIntOf, Sem.run_bind, Sem.run_pure, Result.andThen_ok, run_underlying (und_ok hT hu), Int.natCast_nonneg, if_true, Int.toNat_natCast, h4]
          rw [← hu2]
        · cases e
      · cases e
  · cases e

/-! ### Slices -/

omit hT in
theorem obnd_ok {i : Option AVal} {d y n : Nat} (e : obnd i d y = some n) {c : Option Value} (hi : OV ρ w i c) :
    (i = none ∧ c = none ∧ n = d) ∨ (∃ k, c = some (.int k n) ∧ n ≤ y ∧ i.isSome = true) := by
  unfold obnd at e
  split at e
  · cases c with
    | none => left; simp at e; exact ⟨rfl, rfl, e.symm⟩
    | some c => exact hi.elim
  · cases c with
    | none => exact hi.elim
    | some c => right; obtain ⟨k, h1, h2⟩ := bnd_ok e hi; exact ⟨k, by rw [h1], h2, rfl⟩

omit hT in
/-- the bounds, at a capacity that is at least what is known -/
theorem bounds_ok {len cap K : Nat} {lo hi mx : Option AVal} {a b m : Nat} (e : bounds len K lo hi mx = some (a, b, m)) {cl ch cm : Option Value} (hl : OV ρ w lo cl) (hh : OV ρ w hi ch) (hm : OV ρ w mx cm)
    (hK : K ≤ cap) (isSlice : Bool) :
    (Instr.sliceBounds isSlice len cap cl ch cm).run P w = .ok (a, b, if mx.isSome then m else cap) w ∧ a ≤ b ∧ (mx = none → m = K) ∧ (mx.isSome = true → m ≤ K ∧ b ≤ m) ∧ (hi.isSome = true → b ≤ m) ∧ (hi = none → b = len) ∧ (lo = none → a = 0) := by
  unfold bounds at e
  split at e
  · cases e
  · rename_i m' hm'
    split at e
    · cases e
    · rename_i x y hnn
      split at e
      · cases e
      · rename_i b' hb'
        split at e
        · cases e
        · rename_i a' ha'
          simp at e
          obtain ⟨ea, eb, em⟩ := e
          rw [ea] at ha'; rw [eb] at hb' ha'; rw [em] at hm' hb'
          clear ea eb em
          have q1 := obnd_ok hm' (c := cm) hm
          have q2 := obnd_ok hb' (c := ch) hh
          have q3 := obnd_ok ha' (c := cl) hl
          rcases q1 with ⟨e1, e2, e3⟩ | ⟨k1, e1, e2, e3⟩
          · subst e1; subst e2; subst e3
            rcases q2 with ⟨f1, f2, f3⟩ | ⟨k2, f1, f2, f3⟩
            · subst f1; subst f2; subst f3
              rcases q3 with ⟨g1, g2, g3⟩ | ⟨k3, g1, g2, g3⟩
              · subst g1; subst g2; subst g3
                exact ⟨by simp [Instr.sliceBounds], by omega, by simp, by simp, by simp, by simp, by simp⟩
              · subst g1
                exact ⟨by simp [Instr.sliceBounds, run_sliceBound, g2], g2, by simp, by simp, by simp, by simp, fun h => (by rw [h] at g3; cases g3)⟩
            · subst f1
              have : (b : Int) ≤ (cap : Int) := by omega
              rcases q3 with ⟨g1, g2, g3⟩ | ⟨k3, g1, g2, g3⟩
              · subst g1; subst g2; subst g3
                exact ⟨by simp [Instr.sliceBounds, run_sliceBound, this], by omega, by simp, by simp, fun _ => f2, fun h => (by rw [h] at f3; cases f3), by simp⟩
              · subst g1
                exact ⟨by simp [Instr.sliceBounds, run_sliceBound, this, g2], g2, by simp, by simp, fun _ => f2, fun h => (by rw [h] at f3; cases f3), fun h => (by rw [h] at g3; cases g3)⟩
          · subst e1
            have t1 : (m : Int) ≤ (cap : Int) := by omega
            rcases q2 with ⟨f1, f2, f3⟩ | ⟨k2, f1, f2, f3⟩
            · subst f1
              cases mx with
              | none => simp at e3
              | some z => exact absurd rfl (hnn _ rfl)
            · subst f1
              have t2 : (b : Int) ≤ (m : Int) := by omega
              rcases q3 with ⟨g1, g2, g3⟩ | ⟨k3, g1, g2, g3⟩
              · subst g1; subst g2; subst g3
                exact ⟨by simp [Instr.sliceBounds, run_sliceBound, t1, t2, e3], by omega, fun h => (by rw [h] at e3; cases e3), fun _ => ⟨e2, f2⟩, fun _ => f2, fun h => (by rw [h] at f3; cases f3), by simp⟩
              · subst g1
                exact ⟨by simp [Instr.sliceBounds, run_sliceBound, t1, t2, g2, e3], g2, fun h => (by rw [h] at e3; cases e3), fun _ => ⟨e2, f2⟩, fun _ => f2, fun h => (by rw [h] at f3; cases f3), fun h => (by rw [h] at g3; cases g3)⟩

omit hT in
theorem stepOff_eq (off l m s : Nat) : stepOff off l m s = if m = l then off else off + l * s := by
  unfold stepOff
  split
  · rename_i h; rw [if_pos (beq_eq' h)]
  · rename_i h; rw [if_neg (Nat.ne_of_beq_eq_false h)]; rfl

end
end Cv

/- Soundness: slices, aggregates, comparisons, lengths. -/
set_option linter.unusedVariables false
set_option linter.unusedSimpArgs false
namespace Cv
open Go

section
variable {T : Tab} {P : Program} (hT : TabOk T P) {ρ : Ren} {h : Heap} {w : World}
include hT

theorem opSlice_ok {t : TypeId} {x v : AVal} {lo hi mx : Option AVal} (e : opSlice T h t x lo hi mx = some v) (r : Rel ρ h w) {c : Value} {cl ch cm : Option Value} (hx : V ρ w x c) (hl : OV ρ w lo cl) (hh : OV ρ w hi ch) (hm : OV ρ w mx cm) :
    ∃ d, (Instr.sliceAt t c cl ch cm).run P w = .ok d w ∧ V ρ w v d := by
  unfold opSlice at e
  split at e
  · -- strings
    rename_i l hu
    cases hx with
    | str s _ hs =>
      split at e
      · skip
        split at e
        · rename_i a b m hb
          simp at e; subst e
          cases cm with
          | some z => exact hm.elim
          | none =>
            subst hs
            have hlen : (strOf s).length = s.size := by simp [strOf]
            have hb' : bounds s.size s.size lo hi none = some (a, b, m) := by simpa using hb
            obtain ⟨h1, h2, h3, h4, h5, h6, h7⟩ := bounds_ok (P := P) (cap := s.size) hb' hl hh hm (Nat.le_refl _) false
            refine ⟨.string (s.extract a b), ?_, ?_⟩
            · simp only [Instr.sliceAt, Sem.run_bind, run_underlying (und_ok hT hu), Result.andThen_ok, Instr.slice, Option.isSome_none, Bool.false_eq_true, if_false]
              simp only [Option.isSome_none, Bool.false_eq_true, if_false] at h1
              simp [h1]
            · refine .str _ _ ?_
              simp [ByteArray.data_extract, List.extract_eq_take_drop]
              rw [List.drop_take]
        · cases e
      · cases e
  · -- nil
    rename_i el hu
    cases hx
    split at e
    · rename_i q s hb hs
      simp at e; subst e
      obtain ⟨a, b, m⟩ := q
      obtain ⟨h1, h2, h3, h4, h5, h6, h7⟩ := bounds_ok (P := P) (cap := 0) hb hl hh hm (Nat.le_refl _) true
      have hm0 : (if mx.isSome then m else 0) = 0 := by
        split
        · rename_i hh; have := h4 hh; omega
        · rfl
      have hb0 : b = 0 := by
        cases hi with
        | none => exact h6 rfl
        | some z => have := h5 rfl; cases mx with
          | none => have := h3 rfl; omega
          | some y => have := h4 rfl; omega
      rw [hm0] at h1
      refine ⟨.slice none 0 0, ?_, .nils⟩
      simp only [Instr.sliceAt, Sem.run_bind, run_underlying (und_ok hT hu), Result.andThen_ok, Instr.slice, h1, size_ok hT hs, Sem.run_pure]
      have ha0 : a = 0 := by omega
      subst ha0; subst hb0
      simp
    · cases e
  · -- empty
    rename_i el hu
    cases hx with
    | emp ad c =>
      split at e
      · rename_i q s hb hs
        simp at e; subst e
        obtain ⟨a, b, m⟩ := q
        obtain ⟨h1, h2, h3, h4, h5, h6, h7⟩ := bounds_ok (P := P) (cap := c) hb hl hh hm (Nat.zero_le _) true
        have hb0 : b = 0 := by
          cases hi with
          | none => exact h6 rfl
          | some z => have := h5 rfl; cases mx with
            | none => have := h3 rfl; omega
            | some y => have := h4 rfl; omega
        have ha0 : a = 0 := by omega
        subst ha0; subst hb0
        generalize (if mx.isSome then m else c) = mm at h1
        refine ⟨.slice (some ad) 0 (mm - 0), ?_, .emp _ _⟩
        simp only [Instr.sliceAt, Sem.run_bind, run_underlying (und_ok hT hu), Result.andThen_ok, Instr.slice, h1, size_ok hT hs, Sem.run_pure]
        simp [Addr.add]
      · cases e
  · -- an exact capacity
    rename_i el id off len k hu
    cases hx with
    | sl _ _ c _ hb hlc hc =>
      rename_i bb
      have hck : c = k := hc
      subst hck
      split at e
      · rename_i a b m s hbd hs
        simp at e; subst e
        obtain ⟨h1, h2, h3, h4, h5, h6, h7⟩ := bounds_ok (P := P) (cap := c) hbd hl hh hm (Nat.le_refl _) true
        have hmm : (if mx.isSome then m else c) = m := by
          cases mx with
          | none => simp [h3 rfl]
          | some y => simp
        rw [hmm] at h1
        have hbm : b ≤ m := by
          cases hi with
          | none => cases mx with
            | none => rw [h6 rfl, h3 rfl]; exact hlc
            | some y => exact (h4 rfl).2
          | some z => exact h5 rfl
        refine ⟨.slice (some ⟨bb, stepOff off a m s, none⟩) (b - a) (m - a), ?_, .sl _ _ _ _ hb (by omega) rfl⟩
        simp only [Instr.sliceAt, Sem.run_bind, run_underlying (und_ok hT hu), Result.andThen_ok, Instr.slice, h1, size_ok hT hs, Sem.run_pure, stepOff_eq]
        by_cases hma : m = a
        · simp [hma]
        · simp [hma, Addr.add_lit]
      · cases e
  · -- to the end of its block
    rename_i el id off len sz hu
    split at e
    · rename_i xs s hrow hs
      split at e
      · rename_i hsz
        have hsz := beq_eq' hsz
        subst hsz
        cases hx with
        | sl _ _ c _ hb hlc hc =>
          rename_i bb
          obtain ⟨hs0, e', n, hsh, hn⟩ := hc
          obtain ⟨ty, g, ho⟩ := rowOf_some hrow
          obtain ⟨cs, fz, hblk, _, hxl, _, _⟩ := r.row ho hb
          rw [shape_block hblk] at hsh
          simp at hsh
          have hcap : Nat.div (Nat.sub xs.length off) s ≤ c := by
            show (xs.length - off) / s ≤ c
            have : xs.length - off ≤ c * s := by omega
            calc (xs.length - off) / s ≤ (c * s) / s := Nat.div_le_div_right this
              _ = c := Nat.mul_div_cancel c hs0
          split at e
          · rename_i a b m hbd
            obtain ⟨h1, h2, h3, h4, h5, h6, h7⟩ := bounds_ok (P := P) (cap := c) hbd hl hh hm hcap true
            split at e
            · rename_i z
              simp at e; subst e
              have hmc := (h4 rfl)
              simp only [Option.isSome_some, if_true] at h1
              refine ⟨.slice (some ⟨bb, stepOff off a m s, none⟩) (b - a) (m - a), ?_, .sl _ _ _ _ hb (by omega) rfl⟩
              simp only [Instr.sliceAt, Sem.run_bind, run_underlying (und_ok hT hu), Result.andThen_ok, Instr.slice, h1, size_ok hT hs, Sem.run_pure, stepOff_eq]
              by_cases hma : m = a
              · simp [hma]
              · simp [hma, Addr.add_lit]
            · have hmK := h3 rfl
              simp only [Option.isSome_none, Bool.false_eq_true, if_false] at h1
              have hbc : b ≤ c := by
                cases hi with
                | none => rw [h6 rfl]; exact hlc
                | some z => have := h5 rfl; omega
              have hrun : ∀ X, (Instr.sliceAt t (.slice (some ⟨bb, off, none⟩) len c) cl ch cm).run P w = .ok X w ↔ X = .slice (if c = a then some ⟨bb, off, none⟩ else some ⟨bb, off + a * s, none⟩) (b - a) (c - a) := fun X => by
                simp only [Instr.sliceAt, Sem.run_bind, run_underlying (und_ok hT hu), Result.andThen_ok, Instr.slice, h1, size_ok hT hs, Sem.run_pure]
                constructor
                · intro hX; injection hX with hX; rw [← hX]; by_cases hca : c = a <;> simp [hca, Addr.add_lit]
                · intro hX; rw [hX]; by_cases hca : c = a <;> simp [hca, Addr.add_lit]
              split at e
              · rename_i ha0
                have ha0 := beq_eq' ha0
                subst ha0
                simp at e; subst e
                refine ⟨.slice (some ⟨bb, off, none⟩) b c, (hrun _).2 (by simp), .sl _ _ _ _ hb hbc ⟨hs0, e', n, by rw [shape_block hblk]; simp [hsh.1, hsh.2], hn⟩⟩
              · rename_i ha0 halt
                have halt := blt_lt halt
                simp at e; subst e
                have hca : c ≠ a := by omega
                refine ⟨.slice (some ⟨bb, off + a * s, none⟩) (b - a) (c - a), (hrun _).2 (by simp [hca]), .sl _ _ _ _ hb (by omega) ⟨hs0, e', n, by rw [shape_block hblk]; simp [hsh.1, hsh.2], ?_⟩⟩
                show n = (off + a * s) + (c - a) * s
                have : c * s = a * s + (c - a) * s := by rw [← Nat.add_mul]; congr 1; omega
                omega
              · split at e
                · rename_i hba
                  have hba : b - a = 0 := beq_eq' hba
                  simp at e; subst e
                  by_cases hca : c = a
                  · exact ⟨.slice (some ⟨bb, off, none⟩) 0 (c - a), (hrun _).2 (by simp [hca, hba]), .emp _ _⟩
                  · exact ⟨.slice (some ⟨bb, off + a * s, none⟩) 0 (c - a), (hrun _).2 (by simp [hca, hba]), .emp _ _⟩
                · cases e
          · cases e
      · cases e
    · cases e
  · -- an array behind a pointer
    rename_i n el id off hu
    cases hx with
    | ptr _ hb =>
      rename_i bb
      split at e
      · rename_i a b m s hbd hs
        simp at e; subst e
        obtain ⟨h1, h2, h3, h4, h5, h6, h7⟩ := bounds_ok (P := P) (cap := n) hbd hl hh hm (Nat.le_refl _) false
        have hmm : (if mx.isSome then m else n) = m := by
          cases mx with
          | none => simp [h3 rfl]
          | some y => simp
        rw [hmm] at h1
        have hbm : b ≤ m := by
          cases hi with
          | none => cases mx with
            | none => rw [h6 rfl, h3 rfl]; exact Nat.le_refl _
            | some y => exact (h4 rfl).2
          | some z => exact h5 rfl
        refine ⟨.slice (some ⟨bb, stepOff off a m s, none⟩) (b - a) (m - a), ?_, .sl _ _ _ _ hb (by omega) rfl⟩
        simp only [Instr.sliceAt, Sem.run_bind, run_underlying (und_ok hT hu), Result.andThen_ok, Instr.sureAddr, h1, size_ok hT hs, Sem.run_pure, stepOff_eq]
        by_cases hma : m = a
        · simp [hma]
        · simp [hma, Addr.add_lit]
      · cases e
  · cases e

end
end Cv

/- Soundness: numbers, comparisons, lengths, aggregates. -/
set_option linter.unusedVariables false
set_option linter.unusedSimpArgs false
namespace Cv
open Go

section
variable {T : Tab} {P : Program} (hT : TabOk T P) {ρ : Ren} {h : Heap} {w : World}

theorem intOp_ok {op : BinOp} {k : IntKind} {a b : Int} {v : AVal} (e : intOp op k a b = some v) (t : TypeId) (hns : op ≠ .shl ∧ op ≠ .shr) :
    ∃ d, (binOp op t (.int k a) (.int k b)).run P w = .ok d w ∧ V ρ w v d := by
  cases op <;> simp only [intOp] at e
  case add => cases e; exact ⟨_, by simp [binOp_add, Op.intArith, wrapK], .int _ _⟩
  case sub => cases e; exact ⟨_, by simp [binOp_sub, Op.intArith, wrapK], .int _ _⟩
  case mul => cases e; exact ⟨_, by simp [binOp_mul, Op.intArith, wrapK], .int _ _⟩
  case quo =>
    split at e
    · cases e
    · rename_i hb; cases e; exact ⟨_, by simp [binOp_quo, Op.intDiv, hb, wrapK], .int _ _⟩
  case rem =>
    split at e
    · cases e
    · rename_i hb; cases e; exact ⟨_, by simp [binOp_rem, Op.intDiv, hb, wrapK], .int _ _⟩
  case and => cases e; exact ⟨_, by simp only [binOp_and, Op.intBits]; rfl, .int _ _⟩
  case or => cases e; exact ⟨_, by simp only [binOp_or, Op.intBits]; rfl, .int _ _⟩
  case xor => cases e; exact ⟨_, by simp only [binOp_xor, Op.intBits]; rfl, .int _ _⟩
  case andNot => cases e; exact ⟨_, by simp only [binOp_andNot, Op.intBits]; rfl, .int _ _⟩
  case shl => exact absurd rfl hns.1
  case shr => exact absurd rfl hns.2
  case eql => cases e; exact ⟨_, by simp [binOp_eql], .bool _⟩
  case neq => cases e; exact ⟨_, by simp [binOp_neq], .bool _⟩
  case lss => cases e; exact ⟨_, by simp [binOp_lss], .bool _⟩
  case leq => cases e; exact ⟨_, by simp [binOp_leq], .bool _⟩
  case gtr => cases e; exact ⟨_, by simp [binOp_gtr], .bool _⟩
  case geq => cases e; exact ⟨_, by simp [binOp_geq], .bool _⟩

theorem strOf_inj {s t : ByteArray} : strOf s = strOf t ↔ s = t := by
  constructor
  · intro h
    have : s.data.toList = t.data.toList := by
      have := List.map_inj_right (f := UInt8.toNat) (fun a b hab => UInt8.toNat_inj.1 hab) |>.1 h
      exact this
    cases s; cases t
    simp at this
    simp [this]
  · intro h; rw [h]

theorem toList_eq {s t : ByteArray} : (s.toList == t.toList) = decide (strOf s = strOf t) := by
  rw [ByteArray.toList_eq, ByteArray.toList_eq]
  by_cases h : s = t
  · subst h; simp
  · have h1 : strOf s ≠ strOf t := fun e => h (strOf_inj.1 e)
    have h2 : s.data.toList ≠ t.data.toList := fun e => h1 (by simp [strOf, e])
    rw [decide_eq_false h1]
    simp
    exact fun e => h2 (by rw [e])

include hT

theorem eqFs_ok {f : TypeId → AVal → AVal → Option Bool} {d : Nat} (hf : ∀ t x y b c e, f t x y = some b → V ρ w x c → V ρ w y e → (Op.equalIn d t c e).run P w = .ok b w) {xs ys : List AVal} {cs ds : List Value} (hx : VL ρ w xs cs) (hy : VL ρ w ys ds) :
    ∀ (fs : List Field) (b : Bool), eqFs T f xs ys fs = some b → (∀ g ∈ fs, g.name ≠ "_") → (Op.eqFields d cs.toArray ds.toArray fs).run P w = .ok b w
  | [], b, e, hn => by simp [eqFs] at e; subst e; simp [Op.eqFields]
  | g :: fs, b, e, hn => by
    simp only [eqFs] at e
    split at e
    · rename_i a a' h1 h2
      obtain ⟨c1, r1, v1⟩ := partOf_ok hT h1 hx
      obtain ⟨c2, r2, v2⟩ := partOf_ok hT h2 hy
      split at e
      · rename_i hb
        have := hf _ _ _ _ _ _ hb v1 v2
        have ih := eqFs_ok hf hx hy fs b e (fun k hk => hn k (by simp [hk]))
        simp only [Op.eqFields, hn g (by simp), ne_eq, not_false_eq_true, if_true, Sem.run_bind, r1, r2, this, Result.andThen_ok, Bool.not_true, Bool.false_eq_true, if_false, ih]
      · rename_i hb
        cases e
        have := hf _ _ _ _ _ _ hb v1 v2
        simp [Op.eqFields, hn g (by simp), r1, r2, this]
      · cases e
    · cases e

theorem eqV_ok : ∀ (k d : Nat) (t : TypeId) (x y : AVal) (b : Bool) (c e : Value), eqV T k t x y = some b → V ρ w x c → V ρ w y e → k ≤ d → (Op.equalIn d t c e).run P w = .ok b w
  | 0, _, _, _, _, _, _, _, h, _, _, _ => by simp [eqV] at h
  | k + 1, d, t, x, y, b, c, e, h, hx, hy, hd => by
    obtain ⟨d, rfl⟩ : ∃ m, d = m + 1 := ⟨d - 1, by omega⟩
    simp only [eqV] at h
    split at h
    · rename_i hu
      cases hx; cases hy
      split at h
      · rename_i hk; subst hk; cases h
        exact run_equalIn_int w d t _ _ _ _ (und_ok hT hu)
      · cases h
    · rename_i hu
      cases hx; cases hy; cases h
      exact run_equalIn_bool' w d t _ _ (und_ok hT hu)
    · rename_i hu
      cases hx with | str s _ hs => cases hy with | str s' _ hs' =>
      cases h
      rw [run_equalIn_string w d t _ _ (und_ok hT hu), toList_eq, natsEq_eq]
      subst hs; subst hs'; rfl
    · rename_i fs xs ys hu
      split at h
      · rename_i hsok
        cases hx with | agg _ cs hxl hxs => cases hy with | agg _ ds hyl hys =>
        obtain ⟨s1, s2, s3⟩ := hT.sok _ hsok
        have hfo : P.fieldsOf t = fs := by simp [Program.fieldsOf, und_ok hT hu]
        rw [run_equalIn_struct w d t _ _ (by rw [hfo]; exact und_ok hT hu) s1]
        rw [hfo] at s3 ⊢
        exact eqFs_ok hT (fun t x y b c e h1 h2 h3 => eqV_ok k d t x y b c e h1 h2 h3 (by omega)) (cs := cs) (ds := ds) ⟨hxl, hxs⟩ ⟨hyl, hys⟩ _ _ h s3
      · cases h
    · cases h

end
end Cv

/- Soundness: binary and unary operations, lengths, aggregates. -/
set_option linter.unusedVariables false
set_option linter.unusedSimpArgs false
namespace Cv
open Go

section
variable {T : Tab} {P : Program} (hT : TabOk T P) {ρ : Ren} {h : Heap} {w : World}
include hT

omit hT in
theorem eq_help {t : TypeId} {c d : Value} {b : Bool} {o1 o2 : Operand} (h1 : binOp .eql t c d = (do pure (.bool (← Op.equal t c d)))) (h2 : binOp .neq t c d = (do pure (.bool (!(← Op.equal t c d)))))
    (g1 : eqGuard .eql t o1 o2 c d = pure ()) (g2 : eqGuard .neq t o1 o2 c d = pure ()) (h3 : ∀ n, (Op.equalIn (n + 1) t c d).run P w = .ok b w) :
    (do eqGuard .eql t o1 o2 c d; binOp .eql t c d : Sem Value).run P w = .ok (.bool b) w ∧ (do eqGuard .neq t o1 o2 c d; binOp .neq t c d : Sem Value).run P w = .ok (.bool (!b)) w := by
  have h4 : (Op.equal t c d).run P w = .ok b w := h3 9999
  rw [h1, h2, g1, g2]
  constructor <;> simp [h4]

/-- the two tests, of whatever is compared by opEq -/
theorem opEq_ok {t : TypeId} {x y : AVal} {b : Bool} (e : opEq T t x y = some b) {c d : Value} (hx : V ρ w x c) (hy : V ρ w y d) (o1 o2 : Operand) :
    (do eqGuard .eql t o1 o2 c d; binOp .eql t c d : Sem Value).run P w = .ok (.bool b) w ∧ (do eqGuard .neq t o1 o2 c d; binOp .neq t c d : Sem Value).run P w = .ok (.bool (!b)) w := by
  unfold opEq at e
  split at e
  · rename_i hu; cases hx; cases hy; cases e
    exact eq_help rfl rfl (eqGuard_at_bool _ _ _ _ _ _) (eqGuard_at_bool _ _ _ _ _ _) (fun n => by simp [Op.equalIn, run_underlying (und_ok hT hu)])
  · rename_i hu; cases hx; cases hy; cases e
    exact eq_help rfl rfl (eqGuard_at_pointer _ _ _ _ _ _) (eqGuard_at_pointer _ _ _ _ _ _) (fun n => by simp [Op.equalIn, run_underlying (und_ok hT hu)])
  · rename_i hu; cases hx; cases hy; cases e
    exact eq_help rfl rfl (eqGuard_at_pointer _ _ _ _ _ _) (eqGuard_at_pointer _ _ _ _ _ _) (fun n => by simp [Op.equalIn, run_underlying (und_ok hT hu)])
  · rename_i hu; cases hx; cases hy; cases e
    exact eq_help rfl rfl (eqGuard_at_pointer _ _ _ _ _ _) (eqGuard_at_pointer _ _ _ _ _ _) (fun n => by simp [Op.equalIn, run_underlying (und_ok hT hu)])
  · rename_i hu; cases hx; cases hy; cases e
    exact eq_help rfl rfl (eqGuard_at_slice _ _ _ _ _ _ _ _) (eqGuard_at_slice _ _ _ _ _ _ _ _) (fun n => by simp [Op.equalIn, run_underlying (und_ok hT hu)])
  · rename_i hu; cases hx; cases hy; cases e
    exact eq_help rfl rfl (eqGuard_at_slice _ _ _ _ _ _ _ _) (eqGuard_at_slice _ _ _ _ _ _ _ _) (fun n => by simp [Op.equalIn, run_underlying (und_ok hT hu)])
  · rename_i hu; cases hx; cases hy; cases e
    exact eq_help rfl rfl (eqGuard_at_slice _ _ _ _ _ _ _ _) (eqGuard_at_slice _ _ _ _ _ _ _ _) (fun n => by simp [Op.equalIn, run_underlying (und_ok hT hu)])
  · rename_i hu; cases hx; cases hy; cases e
    exact eq_help rfl rfl (eqGuard_at_slice _ _ _ _ _ _ _ _) (eqGuard_at_slice _ _ _ _ _ _ _ _) (fun n => by simp [Op.equalIn, run_underlying (und_ok hT hu)])
  · rename_i hu; cases hx; cases hy; cases e
    exact eq_help rfl rfl (eqGuard_at_slice _ _ _ _ _ _ _ _) (eqGuard_at_slice _ _ _ _ _ _ _ _) (fun n => by simp [Op.equalIn, run_underlying (und_ok hT hu)])
  · rename_i hu; cases hx; cases hy; cases e
    exact eq_help rfl rfl (eqGuard_at_map _ _ _ _ _ _) (eqGuard_at_map _ _ _ _ _ _) (fun n => by simp [Op.equalIn, run_underlying (und_ok hT hu)])
  · rename_i hu; cases hx; cases hy; cases e
    exact eq_help rfl rfl (eqGuard_at_map _ _ _ _ _ _) (eqGuard_at_map _ _ _ _ _ _) (fun n => by simp [Op.equalIn, run_underlying (und_ok hT hu)])
  · rename_i hu; cases hx; cases hy; cases e
    exact eq_help rfl rfl (eqGuard_at_map _ _ _ _ _ _) (eqGuard_at_map _ _ _ _ _ _) (fun n => by simp [Op.equalIn, run_underlying (und_ok hT hu)])
  · rename_i hu; cases hx; cases hy; cases e
    exact eq_help rfl rfl (by first | exact eqGuard_at_nilFunc _ _ _ _ _ | exact eqGuard_at_func _ _ _ _ _ _ _ _) (by first | exact eqGuard_at_nilFunc _ _ _ _ _ | exact eqGuard_at_func _ _ _ _ _ _ _ _) (fun n => by simp [Op.equalIn, run_underlying (und_ok hT hu)])
  · rename_i hu; cases hx; cases hy; cases e
    exact eq_help rfl rfl (by first | exact eqGuard_at_nilFunc _ _ _ _ _ | exact eqGuard_at_func _ _ _ _ _ _ _ _) (by first | exact eqGuard_at_nilFunc _ _ _ _ _ | exact eqGuard_at_func _ _ _ _ _ _ _ _) (fun n => by simp [Op.equalIn, run_underlying (und_ok hT hu)])
  · rename_i hu; cases hx; cases hy; cases e
    exact eq_help rfl rfl (by first | exact eqGuard_at_nilFunc _ _ _ _ _ | exact eqGuard_at_func _ _ _ _ _ _ _ _) (by first | exact eqGuard_at_nilFunc _ _ _ _ _ | exact eqGuard_at_func _ _ _ _ _ _ _ _) (fun n => by simp [Op.equalIn, run_underlying (und_ok hT hu)])
  · rename_i fs xs ys hu
    have hsok : T.sok t = true := by
      simp only [eqV, hu] at e
      split at e
      · assumption
      · cases e
    have heq := eqV_ok hT 5 10000 t _ _ b c d e hx hy (by omega)
    obtain ⟨s1, s2, s3⟩ := hT.sok _ hsok
    cases hx with | agg _ cs _ _ => cases hy with | agg _ ds _ _ =>
    constructor
    · rw [Sem.run_bind, run_eqGuard_agg w .eql t o1 o2 _ _ s2, Result.andThen_ok, run_eql_struct, heq]; rfl
    · rw [Sem.run_bind, run_eqGuard_agg w .neq t o1 o2 _ _ s2, Result.andThen_ok, run_neq_struct, heq]; rfl
  · cases e

theorem opBin_ok {op : BinOp} {t : TypeId} {x y v : AVal} (e : opBin T op t x y = some v) {c d : Value} (hx : V ρ w x c) (hy : V ρ w y d) (o1 o2 : Operand) :
    ∃ r, (do eqGuard op t o1 o2 c d; binOp op t c d : Sem Value).run P w = .ok r w ∧ V ρ w v r := by
  unfold opBin at e
  split at e
  · rename_i k a k' b
    cases hx; cases hy
    have hg : ∀ op, eqGuard op t o1 o2 (.int k a) (.int k' b) = pure () := fun op => eqGuard_at_int op t o1 o2 (.int k' b) k a
    rw [hg]
    split at e
    · split at e
      · cases e
      · rename_i hb; cases e
        refine ⟨.int k (k.wrap (a * 2 ^ (min b.toNat k.bits))), ?_, .int _ _⟩
        simp [binOp_shl, Op.shift, hb]
    · split at e
      · cases e
      · rename_i hb; cases e
        refine ⟨.int k (a.fdiv (2 ^ (min b.toNat k.bits))), ?_, .int _ _⟩
        simp [binOp_shr, Op.shift, hb]
    · rename_i h1 h2
      split at e
      · rename_i hk; subst hk
        obtain ⟨r, hr, hv⟩ := intOp_ok (P := P) (ρ := ρ) (w := w) e t ⟨h1, h2⟩
        exact ⟨r, by simpa using hr, hv⟩
      · cases e
  · rename_i a b
    cases hx with | str s _ hs => cases hy with | str s' _ hs' =>
    have hg : ∀ op, eqGuard op t o1 o2 (.string s) (.string s') = pure () := fun op => eqGuard_at_string op t o1 o2 (.string s') s
    rw [hg]
    have l1 : a.length = s.size := by rw [← hs]; simp
    have l2 : b.length = s'.size := by rw [← hs']; simp
    have hcmp : (s.toList == s'.toList) = natsEq a b := by rw [toList_eq, natsEq_eq, ← hs, ← hs']; rfl
    split at e
    · split at e
      · rename_i hl
        have hl : a.length + b.length ≤ 4611686018427387904 := ble_le hl
        cases e
        refine ⟨.string (s ++ s'), ?_, .str _ _ (by simp [ByteArray.data_append, ← hs, ← hs'])⟩
        have : ¬ ((s.size : Int) + (s'.size : Int) > 9223372036854775807) := by omega
        simp [binOp, Op.stringOp, this]
      · cases e
    · cases e; exact ⟨.bool (natsEq a b), by simp [binOp, Op.stringOp, hcmp], .bool _⟩
    · cases e; exact ⟨.bool (!natsEq a b), by simp [binOp, Op.stringOp, hcmp], .bool _⟩
    · cases e
  · split at e
    · split at e
      · rename_i b hb; cases e
        exact ⟨.bool b, (opEq_ok hT hb hx hy o1 o2).1, .bool _⟩
      · cases e
    · split at e
      · rename_i b hb; cases e
        exact ⟨.bool (!b), (opEq_ok hT hb hx hy o1 o2).2, .bool _⟩
      · cases e
    · cases e

omit hT in
theorem opUn_ok {op : UnOp} {x v : AVal} (e : opUn op x = some v) {c : Value} (hx : V ρ w x c) : ∃ r, (Op.unary op c).run P w = .ok r w ∧ V ρ w v r := by
  unfold opUn at e
  split at e
  · cases hx; cases e; exact ⟨_, by simp [Op.unary], .bool _⟩
  · cases hx; cases e; exact ⟨_, by simp [Op.unary, Op.intArith, wrapK], .int _ _⟩
  · rename_i k n
    cases hx
    simp only [intOp] at e
    cases e
    exact ⟨_, by simp only [Op.unary, Op.intBits]; rfl, .int _ _⟩
  · cases e

theorem opLen_ok {t ty : TypeId} {x v : AVal} (e : opLen T h t x = some v) (r : Rel ρ h w) {c : Value} (hx : V ρ w x c) : ∃ d, (Builtin.len_ #[t] ty #[c]).run P w = .ok d w ∧ V ρ w v d := by
  unfold opLen at e
  split at e
  · rename_i l hu
    cases hx with | str s _ hs =>
    cases e
    refine ⟨.int .i64 s.size, by simp [Builtin.len_, run_underlying (und_ok hT hu), goInt], ?_⟩
    have : l.length = s.size := by rw [← hs]; simp
    rw [this]; exact .int _ _
  · rename_i n el hu
    cases e
    exact ⟨.int .i64 n, by simp [Builtin.len_, run_underlying (und_ok hT hu), goInt], .int _ _⟩
  · rename_i el hu; cases hx; cases e
    exact ⟨.int .i64 0, by simp [Builtin.len_, run_underlying (und_ok hT hu), goInt], .int _ _⟩
  · rename_i el hu; cases hx; cases e
    exact ⟨.int .i64 0, by simp [Builtin.len_, run_underlying (und_ok hT hu), goInt], .int _ _⟩
  · rename_i el a b n d hu; cases hx; cases e
    exact ⟨.int .i64 n, by simp [Builtin.len_, run_underlying (und_ok hT hu), goInt], .int _ _⟩
  · rename_i a b hu; cases hx; cases e
    exact ⟨.int .i64 0, by simp [Builtin.len_, run_underlying (und_ok hT hu), goInt], .int _ _⟩
  · rename_i a b id hu
    cases hx with | mp hb =>
    split at e
    · rename_i es cl ho
      cases e
      obtain ⟨b', c', h1, h2, h3⟩ := r.obj _ _ ho
      rw [hb] at h1; cases h1
      cases h3 with | map _ _ cs hl hes =>
      exact ⟨.int .i64 cs.length, by simp [Builtin.len_, run_underlying (und_ok hT hu), goInt, getObj, Sem.run, h2], by rw [hl]; exact .int _ _⟩
    · cases e
  · cases e

theorem opCap_ok {t ty : TypeId} {x v : AVal} (e : opCap T t x = some v) {c : Value} (hx : V ρ w x c) : ∃ d, (Builtin.cap_ #[t] ty #[c]).run P w = .ok d w ∧ V ρ w v d := by
  unfold opCap at e
  split at e
  · rename_i el hu; cases hx; cases e
    exact ⟨.int .i64 0, by simp [Builtin.cap_, run_underlying (und_ok hT hu), goInt], .int _ _⟩
  · rename_i el a b n d hu
    cases e
    cases hx with | sl _ _ c _ hb hl hc =>
    have hc : c = d := hc
    subst hc
    exact ⟨.int .i64 c, by simp [Builtin.cap_, run_underlying (und_ok hT hu), goInt], .int _ _⟩
  · cases e

omit hT in
theorem opMax_ok {xs : List AVal} {v : AVal} (e : opMax xs = some v) {cs : List Value} (hx : VL ρ w xs cs) (ts : Array TypeId) (ty : TypeId) : ∃ d, (Builtin.max_ ts ty cs.toArray).run P w = .ok d w ∧ V ρ w v d := by
  unfold opMax at e
  split at e
  · obtain ⟨hl, hv⟩ := hx
    match cs, hl with
    | [c1, c2], _ =>
      have h1 := hv 0 _ c1 rfl rfl
      have h2 := hv 1 _ c2 rfl rfl
      cases h1; cases h2; cases e
      exact ⟨_, by simp [Builtin.max_, Builtin.max2], .int _ _⟩
  · obtain ⟨hl, hv⟩ := hx
    match cs, hl with
    | [c1, c2, c3], _ =>
      have h1 := hv 0 _ c1 rfl rfl
      have h2 := hv 1 _ c2 rfl rfl
      have h3 := hv 2 _ c3 rfl rfl
      cases h1; cases h2; cases h3; cases e
      exact ⟨_, by simp [Builtin.max_, Builtin.max2], .int _ _⟩
  · cases e

omit hT in
theorem opMin_ok {xs : List AVal} {v : AVal} (e : opMin xs = some v) {cs : List Value} (hx : VL ρ w xs cs) (ts : Array TypeId) (ty : TypeId) : ∃ d, (Builtin.min_ ts ty cs.toArray).run P w = .ok d w ∧ V ρ w v d := by
  unfold opMin at e
  split at e
  · obtain ⟨hl, hv⟩ := hx
    match cs, hl with
    | [c1, c2], _ =>
      have h1 := hv 0 _ c1 rfl rfl
      have h2 := hv 1 _ c2 rfl rfl
      cases h1; cases h2; cases e
      exact ⟨_, by simp [Builtin.min_, Builtin.min2], .int _ _⟩
  · obtain ⟨hl, hv⟩ := hx
    match cs, hl with
    | [c1, c2, c3], _ =>
      have h1 := hv 0 _ c1 rfl rfl
      have h2 := hv 1 _ c2 rfl rfl
      have h3 := hv 2 _ c3 rfl rfl
      cases h1; cases h2; cases h3; cases e
      exact ⟨_, by simp [Builtin.min_, Builtin.min2], .int _ _⟩
  · cases e

end
end Cv
