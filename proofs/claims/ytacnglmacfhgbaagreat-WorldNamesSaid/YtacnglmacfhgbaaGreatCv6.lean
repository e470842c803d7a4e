/-
  An evaluator over abstract values, of use to every statement of this seat: code and calls are as the machine does them, and a run that the kernel can make. No condition.
-/
import Derived.Test.YtacnglmacfhgbaaGreatCv5
import Derived.RangeFuncRecord

/- Soundness: a region that draws its order. -/
set_option linter.unusedVariables false
set_option linter.unusedSimpArgs false
namespace Cv
open Go

theorem mask_lt {L : List Oper} (hok : okOpers L (masks L []) L 0 = true) : ∀ (m : Nat) (om : Oper), L[m]? = some om → ∀ j, (mk L m).testBit j = true → j < m := by
  intro m
  induction m using Nat.strongRecOn with
  | _ m ih =>
    intro om hom j hj
    have hml : m < L.length := by
      rcases Nat.lt_or_ge m L.length with h | h
      · exact h
      · rw [List.getElem?_eq_none h] at hom; cases hom
    have hed := (okOpers_at L 0 hok m om hom).1
    rw [Nat.zero_add] at hed
    obtain ⟨eg, heg, hbg, hj'⟩ := mask_bit hom hed hj
    have hon : eg.on < m := by
      have := List.all_eq_true.1 hed eg heg
      simp only [hbg, Bool.not_true, Bool.false_or] at this
      exact blt_lt this
    rcases hj' with hj' | hj'
    · omega
    · have hon' : eg.on < L.length := by omega
      have := ih eg.on hon L[eg.on] (by simp [hon']) j hj'
      omega

theorem keep_nodup (m : Nat) : ∀ (l : List (Nat × AObj)), (l.map (·.1)).Nodup → ((keep m l).map (·.1)).Nodup
  | [], _ => by simp [keep]
  | (a, b) :: l, hnl => by
    simp only [List.map_cons, List.nodup_cons] at hnl
    simp only [keep]
    split
    · exact keep_nodup m l hnl.2
    · simp only [List.map_cons, List.nodup_cons]
      refine ⟨fun hm' => hnl.1 ?_, keep_nodup m l hnl.2⟩
      obtain ⟨z, hz, hze⟩ := List.mem_map.1 hm'
      exact hze ▸ List.mem_map_of_mem (mem_keep.1 hz).1

theorem Walks.pend_nodup {T : Tab} {rec : Rec} {n base : Nat} {L : List Oper} {st : Nat → DSt} {vs : Nat → AVal} (hw : Walks T rec n base L st vs) (h0e : (st 0).evs = []) (h0p : (st 0).pend = []) :
    ∀ m, m ≤ L.length → ((st m).pend.map (·.1)).Nodup
  | 0, _ => by rw [h0p]; simp
  | m + 1, hm => by
    have i1 := Walks.pend_nodup hw h0e h0p m (by omega)
    obtain ⟨om, hom, hpm, hsm⟩ := hw.at (j := m) (by omega)
    generalize (st (m + 1)).env = e2 at hsm
    generalize hs2 : st (m + 1) = s2 at hsm ⊢
    cases hsm with
    | skip _ _ => exact i1
    | pure _ _ _ _ => exact i1
    | read _ _ => exact i1
    | make _ _ ob' _ =>
      simp only [List.map_cons, List.nodup_cons]
      refine ⟨fun hmem => ?_, i1⟩
      obtain ⟨q, hq, hqe⟩ := List.mem_map.1 hmem
      obtain ⟨qa, qb⟩ := q
      have := ((hw.pend_mem h0e h0p m (by omega) qa qb).1 hq).1
      simp only at hqe
      omega
    | act _ _ _ _ _ => exact keep_nodup _ _ i1

theorem countP_lt {p q : Nat → Bool} {i : Nat} : ∀ {l : List Nat}, (∀ x ∈ l, q x = true → p x = true) → i ∈ l → p i = true → q i = false → l.countP q < l.countP p
  | [], _, h, _, _ => by cases h
  | x :: l, hm, h, hp, hq => by
    have hle : l.countP q ≤ l.countP p := List.countP_mono_left (fun y hy => hm y (List.mem_cons_of_mem _ hy))
    rcases List.mem_cons.1 h with h1 | h1
    · subst h1
      simp only [List.countP_cons, hp, hq]
      simp
      omega
    · have ih := countP_lt (fun y hy => hm y (List.mem_cons_of_mem _ hy)) h1 hp hq
      simp only [List.countP_cons]
      have : (if q x = true then 1 else 0) ≤ (if p x = true then 1 else 0) := by
        cases hqx : q x
        · simp
        · simp [hm x (by simp) hqx]
      omega

theorem Inv.congr {T : Tab} {n base : Nat} {L : List Oper} {st : Nat → DSt} {vs : Nat → AVal} {ρ0 : Ren} {h0 : Heap} {w0 : World} {S S' : Nat → Prop} {p : Nat} {ρ : Ren} {w : World} {t : Array Value}
    (inv : Inv T n base L st vs ρ0 h0 w0 S p ρ w t) (h : ∀ i, S i ↔ S' i) : Inv T n base L st vs ρ0 h0 w0 S' p ρ w t := by
  have : S = S' := funext fun i => propext (h i)
  exact this ▸ inv

section
variable {T : Tab} {P : Program} (hT : TabOk T P) {rec : Rec} (hrec : RecOk P rec)
include hT hrec

theorem go_ok {n base : Nat} {ops : Array Oper} {st : Nat → DSt} {vs : Nat → AVal} (hw : Walks T rec n base ops.toList st vs) (h0e : (st 0).evs = []) (h0p : (st 0).pend = [])
    (hok : okOpers ops.toList (masks ops.toList []) ops.toList 0 = true) (hro : readsOk T (masks ops.toList []) (st ops.toList.length).evs (st ops.toList.length).vers (st ops.toList.length).rds = true)
    {ρ0 : Ren} {h0 : Heap} {w0 : World} (hb0 : h0.next = base) {b : Frame} {d : List Deferred} {k : List Item} (cs : List Frame) :
    ∀ (fuel tt : Nat) (listed : Array Bool) (p : Nat) (ρ : Ren) (w : World) (t : Array Value), listed.size = ops.size → ((List.range ops.size).countP fun i => !listed.getD i true) ≤ fuel →
    Inv T n base ops.toList st vs ρ0 h0 w0 (fun i => listed.getD i false = true) p ρ w t →
    ∃ p' ρ' w' t', Steps P (lone (fr b t d (.inRegion ops (Region.linearise.go .any ops fuel tt listed []) :: k)) cs w) (lone (fr b t' d (.inRegion ops [] :: k)) cs w') ∧
      Inv T n base ops.toList st vs ρ0 h0 w0 (fun i => i < ops.toList.length) p' ρ' w' t' := by
  intro fuel
  induction fuel with
  | zero =>
    intro tt listed p ρ w t hsz hcnt inv
    refine ⟨p, ρ, w, t, by simp [Region.linearise.go]; exact Steps.refl _ _, inv.congr fun i => ⟨fun h => (inv.dn i h).1, fun h => ?_⟩⟩
    have h0 : ((List.range ops.size).countP fun i => !listed.getD i true) = 0 := by omega
    have := List.countP_eq_zero.1 h0 i (by simpa using h)
    have hi : i < listed.size := by rw [hsz]; simpa using h
    simp only [Array.getD_eq_getD_getElem?, Array.getElem?_eq_getElem hi, Option.getD_some] at this ⊢
    simpa using this
  | succ fuel ih =>
    intro tt listed p ρ w t hsz hcnt inv
    rw [Region.linearise.go]
    show ∃ p' ρ' w' t', Steps P (lone (fr b t d (.inRegion ops (match (Region.ready .any ops listed)[tt % (Region.ready .any ops listed).length]? with
      | some i => Region.linearise.go .any ops fuel (tt / (Region.ready .any ops listed).length) (listed.setIfInBounds i true) [i]
      | none => [].reverse) :: k)) cs w) _ ∧ _
    split
    · rename_i i hi
      have hmem := List.mem_of_getElem? hi
      obtain ⟨hn, o, ho, hpre⟩ := mem_ready.1 hmem
      have hlt : i < ops.size := (Array.getElem?_eq_some_iff.1 ho).1
      have hil : i < listed.size := by omega
      have hnf : ¬ (listed.getD i false = true) := by
        simp only [Array.getD_eq_getD_getElem?, Array.getElem?_eq_getElem hil, Option.getD_some] at hn ⊢
        simp [hn]
      obtain ⟨p1, ρ1, w1, t1, s1, inv1⟩ := inv_step hT hrec hw h0e h0p hok hro hb0 inv (i := i) (by simpa using hlt) hnf
        (by
          intro o' ho' e he hb
          rw [Array.getElem?_toList, ho] at ho'; cases ho'
          exact hpre e (by simpa using he) hb)
        (b := b) (d := d) (k := k) (rest := Region.linearise.go .any ops fuel (tt / (Region.ready .any ops listed).length) (listed.setIfInBounds i true) []) cs
      rw [linearise_go_acc, List.reverse_singleton, List.singleton_append]
      have inv2 : Inv T n base ops.toList st vs ρ0 h0 w0 (fun j => (listed.setIfInBounds i true).getD j false = true) p1 ρ1 w1 t1 := inv1.congr fun j => by
        simp only [Array.getD_eq_getD_getElem?, Array.getElem?_setIfInBounds]
        constructor
        · rintro (rfl | h)
          · simp [hil]
          · split
            · simp [hil]
            · exact h
        · intro h
          split at h
          · rename_i e; exact .inl e.symm
          · exact .inr h
      obtain ⟨p2, ρ2, w2, t2, s2, inv3⟩ := ih (tt / (Region.ready .any ops listed).length) (listed.setIfInBounds i true) p1 ρ1 w1 t1 (by simpa using hsz)
        (by
          have := countP_lt (p := fun i => !listed.getD i true) (q := fun j => !(listed.setIfInBounds i true).getD j true) (i := i) (l := List.range ops.size)
            (by
              intro x hx hq
              simp only [Array.getD_eq_getD_getElem?, Array.getElem?_setIfInBounds] at hq ⊢
              split at hq
              · rename_i e; subst e; simp [hil] at hq
              · exact hq)
            (by simpa using hlt) (by simp only [hn]; rfl)
            (by simp [Array.getD_eq_getD_getElem?, Array.getElem?_setIfInBounds, hil])
          omega) inv2
      exact ⟨p2, ρ2, w2, t2, s1.trans s2, inv3⟩
    · rename_i hnone
      have hempty : Region.ready .any ops listed = [] := by
        cases hrs : Region.ready .any ops listed with
        | nil => rfl
        | cons x l =>
          rw [hrs] at hnone
          have := Nat.mod_lt tt (y := (x :: l).length) (by simp)
          rw [List.getElem?_eq_none_iff] at hnone
          omega
      refine ⟨p, ρ, w, t, Steps.refl _ _, inv.congr fun i => ⟨fun h => (inv.dn i h).1, ?_⟩⟩
      induction i using Nat.strongRecOn with
      | _ i ih2 =>
        intro hi
        have hi' : i < ops.size := by simpa using hi
        have hil : i < listed.size := by omega
        cases hb : listed.getD i true with
        | true =>
          simp only [Array.getD_eq_getD_getElem?, Array.getElem?_eq_getElem hil, Option.getD_some] at hb ⊢
          exact hb
        | false =>
          exfalso
          have hmem : i ∈ Region.ready .any ops listed := by
            refine mem_ready.2 ⟨hb, ops[i], by simp [hi'], fun e he hbd => ?_⟩
            have hed := (okOpers_at ops.toList 0 hok i ops[i] (by simp [hi'])).1
            rw [Nat.zero_add] at hed
            have := List.all_eq_true.1 hed e (by simpa using he)
            simp only [hbd, Bool.not_true, Bool.false_or] at this
            have hlt := blt_lt this
            exact ih2 e.on hlt (by omega)
          rw [hempty] at hmem
          cases hmem

theorem doDraw_ok {n : Nat} {ops : Array Oper} {b : Frame} {d : List Deferred} {k : List Item} (cs : List Frame) {env env' : Tree AVal} {h h' : Heap} {ρ : Ren} {w : World} {t : Array Value}
    (e : doDraw T rec n ops.toList env h = some (env', h')) (r : Rel ρ h w) (he : ER ρ w env n t) (id : Nat) :
    ∃ ρ' w' t', Steps P (lone (fr b t d (.code (.region id ops true) :: k)) cs w) (lone (fr b t' d k) cs w') ∧ Rel ρ' h' w' ∧ ER ρ' w' env' n t' ∧ Ext (fun _ => False) ρ h w ρ' h' w' := by
  unfold doDraw at e
  split at e
  · rename_i hok
    split at e
    · rename_i s hwalk
      split at e
      · rename_i hro
        cases e
        obtain ⟨st, vs, q1, q2, q3⟩ := walkD_steps _ _ _ _ _ hwalk
        have hw : Walks T rec n h.next ops.toList st vs := by
          intro j o ho
          obtain ⟨m, a1, a2, a3⟩ := q3 j o ho
          refine ⟨a2, ?_⟩
          rw [Nat.zero_add] at a3
          have : mk ops.toList j = m := by unfold mk; rw [nth_eq, a1]; rfl
          rw [this]; exact a3
        have h0e : (st 0).evs = [] := by rw [q1]
        have h0p : (st 0).pend = [] := by rw [q1]
        subst q2
        -- the world, one question on
        obtain ⟨rd, xd⟩ := r.drawn (w' := { w with drawn := w.drawn + 1 }) rfl rfl rfl rfl (fun _ => False)
        have inv0 : Inv T n h.next ops.toList st vs ρ h { w with drawn := w.drawn + 1 } (fun i => (Array.replicate ops.size false).getD i false = true) 0 ρ { w with drawn := w.drawn + 1 } t := by
          have hnone : ∀ i, ¬ ((Array.replicate ops.size false).getD i false = true) := fun i => by
            simp only [Array.getD_eq_getD_getElem?, Array.getElem?_replicate]
            split <;> simp
          have hst0 : (st 0).h = ⟨h.t, h.next + ops.toList.length⟩ := by rw [q1]; rfl
          refine ⟨fun i hi => absurd hi (hnone i), Nat.zero_le _, fun e he => ⟨fun hi => absurd hi (hnone e), fun hi => absurd hi (Nat.not_lt_zero _)⟩, ?_, ?_, ?_, fun a ob _ ha => absurd ha (hnone a), ?_, he.1, ?_, fun l o x hl => absurd hl (hnone l), ?_⟩
          · refine hw.vers_mem (Nat.zero_le _) (Nat.le_refl _) ?_
            rw [hst0, q1]; exact List.mem_singleton.2 rfl
          · rw [hst0]; exact rd.bump _
          · rw [hst0]; exact Nat.le_refl _
          · intro i _ _; exact rd.fresh _ (Nat.le_add_right _ _)
          · intro x v hx _
            rw [q1] at hx
            obtain ⟨c, h1, h2⟩ := he.2 x v hx
            exact ⟨c, h1, h2.mono xd.grow⟩
          · rw [hst0]
            exact { Ext.refl (fun id => h.next ≤ id) ρ h { w with drawn := w.drawn + 1 } with next := Nat.le_add_right _ _, own := fun b hb => .inr hb }
        obtain ⟨p, ρ1, w1, t1, s1, inv⟩ := go_ok hT hrec hw h0e h0p hok hro rfl (b := b) (d := d) (k := k) cs ops.size (w.tape w.drawn (.order b.fn id)) (Array.replicate ops.size false) 0 ρ _ t (by simp)
          (by
            refine Nat.le_trans List.countP_le_length ?_
            simp) inv0
        -- the last memory
        have hevs := hw.evs_mem h0e
        have hph : (st ops.toList.length).h = (st p).h := hw.heap_same h0e inv.le (Nat.le_refl _) (fun e he' => (inv.cur e he').1 (hevs _ (Nat.le_refl _) e he'))
        have hready : ∀ q ∈ (st ops.toList.length).pend, Ready ρ1 w1 (st p).h w.heap.size (h.next + q.1) q.2 := by
          rintro ⟨a, ob⟩ hq
          obtain ⟨a1, a2, a3⟩ := (hw.pend_mem h0e h0p _ (Nat.le_refl _) a ob).1 hq
          refine inv.unr a ob a2 a1 fun e he' hlt => ?_
          rcases Nat.lt_or_ge a e with hae | hae
          · exact a3 e he' hae
          · cases hx : (mk ops.toList e).testBit a with
            | false => rfl
            | true =>
              exfalso
              have hel : e < ops.toList.length := by have := inv.le; omega
              have := mask_lt hok e ops.toList[e] (by simp [hel]) a hx
              omega
        obtain ⟨r1, r2, r3⟩ := releaseAll_ok (lo := w.heap.size) (base := h.next) (st ops.toList.length).pend (st p).h inv.rel (hw.pend_nodup h0e h0p _ (Nat.le_refl _)) hready
        have hdst : ∀ (i j : Nat) (o q : Oper) (x : Tmp), ops.toList[i]? = some o → ops.toList[j]? = some q → i ≠ j → o.dst = some x → q.dst ≠ some x := by
          intro i j o q x hoi hqj hne hox
          have h1 := (okOpers_at ops.toList 0 hok j q hqj).2
          rw [Nat.zero_add] at h1
          have h2 := okDsts_at ops.toList 0 h1 i o hoi x hox
          rw [Nat.zero_add] at h2
          exact (okDst_spec h2 hne).1
        have hER : ER ρ1 w1 (st ops.toList.length).env n t1 := by
          refine ⟨inv.size, fun x v hx => ?_⟩
          rcases hw.env_at hdst ops.toList.length (Nat.le_refl _) x v hx with ⟨l, q, a1, a2, a3, a4⟩ | ⟨a1, a2⟩
          · subst a4; exact inv.tm1 l q x a1 a2 a3
          · exact inv.tm0 x v a2 fun l q hl hq => a1 l q hl hq
        refine ⟨ρ1, w1, t1, ?_, ?_, hER, ?_⟩
        · refine .head fs_draw ?_
          have hm := hT.mixed
          simp only [Region.schedule, hm, Bool.true_or, if_true]
          exact s1.trans (.one fs_region_end)
        · rw [hph]; exact r1
        · rw [hph]
          have x1 : Ext (fun id => h.next ≤ id) ρ h { w with drawn := w.drawn + 1 } ρ1 (releaseAll h.next (st ops.toList.length).pend (st p).h) w1 :=
            { inv.ext with
              own := fun x hx => by
                rcases r3 x hx with h1 | h1
                · exact inv.ext.own x h1
                · exact .inl h1
              next := by rw [r2]; exact inv.ext.next }
          exact xd.trans (x1.weaken fun id hid => .inr hid)
      · cases e
    · cases e
  · cases e

end
end Cv

/- Soundness: code. -/
set_option linter.unusedVariables false
set_option linter.unusedSimpArgs false
namespace Cv
open Go

theorem fr_atR (b : Frame) (t : Array Value) (d : List Deferred) (k : List Item) : fr b t d k = b.atR { tmps := t, defers := d } k := rfl

/-- the marks of blocks for deferred calls -/
inductive Marks (ρ : Ren) : List Nat → List Deferred → Prop where
  | nil : Marks ρ [] []
  | cons {m b : Nat} {ms : List Nat} {ds : List Deferred} (hm : ρ m = some b) (h : Marks ρ ms ds) : Marks ρ (m :: ms) ({ target := .collected b, args := #[] } :: ds)

theorem Marks.mono {ρ ρ' : Ren} (hm : ∀ i b, ρ i = some b → ρ' i = some b) {ms : List Nat} {ds : List Deferred} (h : Marks ρ ms ds) : Marks ρ' ms ds := by
  induction h with
  | nil => exact .nil
  | cons h1 _ ih => exact .cons (hm _ _ h1) ih

/-- the loop that a frame is a round of -/
def Around (ρ : Ren) : Option Nat → Option Nat → Prop
  | none, none => True
  | some l, some b => ρ l = some b
  | _, _ => False

theorem Around.mono {ρ ρ' : Ren} (hm : ∀ i b, ρ i = some b → ρ' i = some b) {ar ro : Option Nat} (h : Around ρ ar ro) : Around ρ' ar ro := by
  cases ar <;> cases ro <;> simp only [Around] at h ⊢
  exact hm _ _ h

/-- where a frame stands behind a piece of code -/
def Arr : Out → List Item → List Item → Prop
  | .normal, k, k' => k' = k
  | .exit id, k, k' => ∃ k2, k' = .code (.exit id) :: k2 ∧ exitTo id k2 = exitTo id k
  | .ret, _, k' => ∃ k2, k' = .code .ret :: k2

theorem Arr.up {o : Out} {k1 k k' : List Item} (hn : o ≠ .normal) (hx : ∀ id, o = .exit id → exitTo id k1 = exitTo id k) (h : Arr o k1 k') : Arr o k k' := by
  cases o with
  | normal => exact absurd rfl hn
  | exit id => obtain ⟨k2, h1, h2⟩ := h; exact ⟨k2, h1, h2.trans (hx id rfl)⟩
  | ret => exact h

structure Went (P : Program) (n : Nat) (b : Frame) (cs : List Frame) (m : Machine) (o : Out) (k : List Item) (ar : Option Nat) (df : List Deferred) (ρ : Ren) (h : Heap) (w : World) (s' : St) : Prop where
  ex : ∃ ρ' w' t' df' k', Steps P m (lone (fr b t' df' k') cs w') ∧ Arr o k k' ∧ Rel ρ' s'.h w' ∧ ER ρ' w' s'.env n t' ∧ Marks ρ' s'.mks df' ∧ Ext (fun _ => False) ρ h w ρ' s'.h w' ∧ (ar.isSome = true → df' = df)

theorem Went.head {P : Program} {n : Nat} {b : Frame} {cs : List Frame} {m m1 : Machine} {o : Out} {k k1 : List Item} {ar : Option Nat} {df : List Deferred} {ρ : Ren} {h : Heap} {w : World} {s' : St}
    (hs : step P m = .next m1) (hk : ∀ k', Arr o k1 k' → Arr o k k') (g : Went P n b cs m1 o k1 ar df ρ h w s') : Went P n b cs m o k ar df ρ h w s' := by
  obtain ⟨ρ', w', t', df', k', a1, a2, a3⟩ := g.ex
  exact ⟨ρ', w', t', df', k', .head hs a1, hk _ a2, a3⟩

theorem Ext.mono' {only : Nat → Prop} {ρ ρ' : Ren} {h h' : Heap} {w w' : World} (e : Ext only ρ h w ρ' h' w') : ∀ i b, ρ i = some b → ρ' i = some b := e.mono

section
variable {T : Tab} {P : Program} (hT : TabOk T P) {rec : Rec} (hrec : RecOk P rec)
include hT hrec

omit hT hrec in
/-- a new object under the next name -/
theorem Rel.lay {ρ : Ren} {h : Heap} {w w' : World} (r : Rel ρ h w) {o : AObj} {c : Obj}
    (hw : w'.heap = w.heap.push c) (ht : w'.tape = w.tape) (hos : w'.os = w.os) (hout : w'.output = w.output) (ho : OR ρ w o c) :
    ∃ ρ', Rel ρ' ⟨h.t.set h.next o, Nat.succ h.next⟩ w' ∧ Ext (fun _ => False) ρ h w ρ' ⟨h.t.set h.next o, Nat.succ h.next⟩ w' ∧ ρ' h.next = some w.heap.size := by
  obtain ⟨q1, q2, q3⟩ := (r.bump 1).new (rid := h.next) (o := o) (c := c) (w' := w') (r.fresh _ (Nat.le_refl _)) (Nat.lt_succ_self _) hw ht hos hout ho
  refine ⟨_, q1, ?_, q3⟩
  exact { q2 with
    new := fun id bb hb => (q2.new id bb hb).imp (fun z => z) fun ⟨x, y⟩ => ⟨.inr (x.elim (fun z => by rw [z]; exact Nat.le_refl _) (fun z => Nat.le_of_succ_le z)), y⟩
    next := Nat.le_of_succ_le q2.next }

omit hT hrec in
/-- what entering a loop over a function lays -/
theorem enterLoop_ok {ρ : Ren} {h : Heap} {w : World} (r : Rel ρ h w) {fnid : FuncId} {env : Tree AVal} {n : Nat} {t : Array Value} (he : ER ρ w env n t) {mks : List Nat} {df : List Deferred} (hm : Marks ρ mks df)
    {ar ro : Option Nat} (ha : Around ρ ar ro) {dd : Nat} {s1 : St} (e : dfrOf ar ⟨env, mks, h⟩ = some (dd, s1)) (ps : Array Tmp) (a c : Code) :
    ∃ lb mark w1 ρ1, (Instr.enterLoop fnid t ps a c ro).run P w = .ok (lb, mark) w1 ∧ s1.env = env ∧
      Rel ρ1 ⟨s1.h.t.set s1.h.next (.loop .ready none fnid env n ps.toList a c dd), Nat.succ s1.h.next⟩ w1 ∧ ρ1 s1.h.next = some lb ∧ Marks ρ1 s1.mks (mark ++ df) ∧
      Ext (fun _ => False) ρ h w ρ1 ⟨s1.h.t.set s1.h.next (.loop .ready none fnid env n ps.toList a c dd), Nat.succ s1.h.next⟩ w1 ∧ (ar.isSome = true → mark = []) := by
  unfold dfrOf at e
  cases ar with
  | some l0 =>
    cases ro with
    | none => exact ha.elim
    | some b0 =>
      simp only at e
      split at e
      · rename_i st0 pd0 fn0 env0 n0 ps0 a0 c0 dd0 hg
        cases e
        obtain ⟨b', ob, h1, h2, h3⟩ := r.obj _ _ hg
        have : ρ l0 = some b0 := ha
        rw [this] at h1; cases h1
        cases h3 with
        | loop _ _ _ _ _ _ _ _ tm0 he0 hd0 =>
        rename_i bd
        have hrun : (Instr.enterLoop fnid t ps a c (some b0)).run P w = .ok (w.heap.size, []) (w.alloc (.loop { state := .ready, pending := none, fn := fnid, tmps := t, params := ps, assign := a, body := c, defers := bd })) := by
          unfold Instr.enterLoop
          simp only [Sem.run_bind, run_getLoop h2, run_newObj_alloc, Result.andThen, Sem.run_pure]
        obtain ⟨ρ', q1, q2, q3⟩ := r.lay (o := .loop .ready none fnid env n ps.toList a c dd) (c := .loop { state := .ready, pending := none, fn := fnid, tmps := t, params := ps, assign := a, body := c, defers := bd })
          (w' := w.alloc (.loop { state := .ready, pending := none, fn := fnid, tmps := t, params := ps, assign := a, body := c, defers := bd })) rfl rfl rfl rfl
          (by
            have := OR.loop (ρ := ρ) (w := w) .ready none fnid env n ps.toList a c t he hd0
            simpa [LState.conc] using this)
        refine ⟨_, _, _, _, hrun, rfl, q1, q3, ?_, q2, fun _ => rfl⟩
        simp only [List.nil_append]; exact hm.mono q2.mono
      · cases e
  | none =>
    cases ro with
    | some b0 => exact ha.elim
    | none =>
      simp only [Option.some.injEq, Prod.mk.injEq] at e
      obtain ⟨rfl, rfl⟩ := e
      have hrun := run_enterLoop_outer (P := P) (w := w) fnid t ps a c
      obtain ⟨ρ1, p1, p2, p3⟩ := r.lay (o := .dfr false) (c := .deferred (some [])) (w' := w.alloc (.deferred (some []))) rfl rfl rfl rfl
        (by simpa using OR.dfr (ρ := ρ) (w := w) false)
      have hsz : (w.alloc (.deferred (some []))).heap.size = w.heap.size + 1 := World.size_alloc ..
      obtain ⟨ρ2, q1, q2, q3⟩ := p1.lay (o := .loop .ready none fnid env n ps.toList a c h.next) (c := .loop { state := .ready, pending := none, fn := fnid, tmps := t, params := ps, assign := a, body := c, defers := w.heap.size })
        (w' := (w.alloc (.deferred (some []))).alloc (.loop { state := .ready, pending := none, fn := fnid, tmps := t, params := ps, assign := a, body := c, defers := w.heap.size })) rfl rfl rfl rfl
        (by
          have := OR.loop (ρ := ρ1) (w := w.alloc (.deferred (some []))) .ready none fnid env n ps.toList a c t (he.mono p2.grow) p3
          simpa [LState.conc] using this)
      rw [hsz] at q3
      exact ⟨_, _, _, _, hrun, rfl, q1, q3, Marks.cons (q2.mono _ _ p3) (hm.mono fun i b hb => q2.mono _ _ (p2.mono _ _ hb)), p2.trans q2, fun hh => by cases hh⟩

omit hT hrec in
theorem endL_ok {ρ : Ren} {h h' : Heap} {w : World} (r : Rel ρ h w) {l lb : Nat} {o : Out} (hl : ρ l = some lb) (e : endL h l = some (o, h')) :
    ∃ jump w', (Instr.endLoop lb).run P w = .ok jump w' ∧ (∀ k, Arr o k ((jump.map Item.code).toList ++ k)) ∧ Rel ρ h' w' ∧ Ext (fun _ => False) ρ h w ρ h' w' := by
  unfold endL at e
  split at e
  · rename_i st p fn env n ps a c dd hg
    obtain ⟨b', ob, h1, h2, h3⟩ := r.obj _ _ hg
    rw [hl] at h1; cases h1
    cases h3 with
    | loop _ _ _ _ _ _ _ _ tm he hd =>
    rename_i bd
    split at e
    · cases e
    · rename_i hnb
      split at e
      · rename_i o' ho
        cases e
        have hst : st.conc ≠ LoopState.busy := by
          cases st with
          | busy => exact absurd rfl hnb
          | _ => simp [LState.conc]
        have hrun := run_endLoop (P := P) h2 hst
        have hlt : lb < w.heap.size := r.bound _ _ hl
        obtain ⟨q1, q2⟩ := r.turn (w' := w.putObj lb (.loop { state := .exhausted, pending := p, fn := fn, tmps := tm, params := ps.toArray, assign := a, body := c, defers := bd })) (o' := .loop .over p fn env n ps a c dd) hg hl h2 rfl rfl rfl rfl
          (by
            intro e0 n0 hs
            simp only [World.shape?, h2] at hs
            cases hs)
          (by
            have := OR.loop (ρ := ρ) (w := w) .over p fn env n ps a c tm he hd
            simpa [LState.conc] using this)
        refine ⟨p, _, hrun, fun k => ?_, q1, q2⟩
        cases p with
        | none => cases ho; simp [Arr]
        | some cd =>
          cases cd <;> simp only [outOf] at ho <;> cases ho
          · exact ⟨k, by simp, rfl⟩
          · exact ⟨k, by simp⟩
      · cases e
  · cases e

omit hT hrec in
/-- less of the memory -/
theorem Rel.sub {ρ : Ren} {h h' : Heap} {w : World} (r : Rel ρ h w) (hs : ∀ id o, h'.get id = some o → h.get id = some o) (hn : h'.next = h.next) :
    Rel ρ h' w ∧ Ext (fun _ => False) ρ h w ρ h' w := by
  refine ⟨⟨fun id o ho => r.obj id o (hs _ _ ho), fun i j oi oj b hi hj => r.inj i j oi oj b (hs _ _ hi) (hs _ _ hj), fun id hid => r.fresh id (by rw [← hn]; exact hid), r.bound⟩, ?_⟩
  exact ⟨fun _ _ h => h, fun _ _ h => .inl h, fun b ⟨id, o, ho, hb⟩ => .inr ⟨id, o, hs _ _ ho, hb⟩, fun _ _ _ => rfl, fun _ _ _ h => h, Nat.le_refl _, rfl, rfl, rfl, by rw [hn]; exact Nat.le_refl _⟩

theorem evC_ok {fnid : FuncId} {n lf : Nat} {cs : List Frame} {ar : Option Nat} : ∀ (c : Code) (s : St) (o : Out) (s' : St), evC T rec fnid n ar lf c s = some (o, s') →
    ∀ (ρ : Ren) (w : World) (t : Array Value) (df : List Deferred) (k : List Item) (b : Frame), Rel ρ s.h w → ER ρ w s.env n t → Marks ρ s.mks df → b.fn = fnid → Around ρ ar b.roundOf →
    Went P n b cs (lone (fr b t df (.code c :: k)) cs w) o k ar df ρ s.h w s' := by
  intro c
  induction c with
  | skip =>
    intro s o s' e ρ w t df k b r he hm hb ha
    simp only [evC, Option.some.injEq, Prod.mk.injEq] at e
    obtain ⟨rfl, rfl⟩ := e
    exact ⟨ρ, w, t, df, k, .one fs_skip, rfl, r, he, hm, Ext.refl _ _ _ _, fun _ => rfl⟩
  | region id ops draw =>
    intro s o s' e ρ w t df k b r he hm hb ha
    cases draw with
    | false =>
      simp only [evC] at e
      split at e
      · rename_i env h hd
        cases e
        obtain ⟨ρ', w', t', q1, q2, q3, q4⟩ := doOps_ok hT hrec (b := b) (d := df) (k := k) cs ops.toList 0 s.env s.h env h ρ w t hd (by simp) r he
        refine ⟨ρ', w', t', df, k, .head fs_region ?_, rfl, q2, q3, hm.mono q4.mono, q4, fun _ => rfl⟩
        rw [List.range_eq_range']
        simpa using q1
      · cases e
    | true =>
      simp only [evC] at e
      split at e
      · rename_i env h hd
        cases e
        obtain ⟨ρ', w', t', q1, q2, q3, q4⟩ := doDraw_ok hT hrec (b := b) (d := df) (k := k) cs hd r he id
        exact ⟨ρ', w', t', df, k, q1, rfl, q2, q3, hm.mono q4.mono, q4, fun _ => rfl⟩
      · cases e
  | seq x y ihx ihy =>
    intro s o s' e ρ w t df k b r he hm hb ha
    simp only [evC] at e
    split at e
    · cases e
    · rename_i s1 hx
      obtain ⟨ρ1, w1, t1, df1, k1, a1, a2, a3, a4, a5, a6, a7⟩ := (ihx _ _ _ hx ρ w t df (.code y :: k) b r he hm hb ha).ex
      cases a2
      obtain ⟨ρ2, w2, t2, df2, k2, b1, b2, b3, b4, b5, b6, b7⟩ := (ihy _ _ _ e ρ1 w1 t1 df1 k b a3 a4 a5 hb (ha.mono a6.mono)).ex
      exact ⟨ρ2, w2, t2, df2, k2, .head fs_seq (a1.trans b1), b2, b3, b4, b5, a6.trans b6, fun hh => (b7 hh).trans (a7 hh)⟩
    · rename_i id s1 hx
      cases e
      refine (ihx _ _ _ hx ρ w t df (.code y :: k) b r he hm hb ha).head fs_seq fun k' h => h.up (by simp) fun id _ => by simp [exitTo]
    · rename_i s1 hx
      cases e
      refine (ihx _ _ _ hx ρ w t df (.code y :: k) b r he hm hb ha).head fs_seq fun k' h => h.up (by simp) fun id hh => by cases hh
  | cond c x y ihx ihy =>
    intro s o s' e ρ w t df k b r he hm hb ha
    simp only [evC] at e
    split at e
    · rename_i hc
      have hv := ev_ok he (fr b t df (.code (.cond c x y) :: k)) rfl hc
      generalize hcv : (fr b t df (.code (.cond c x y) :: k)).eval c = cv at hv
      cases hv
      exact (ihx _ _ _ e ρ w t df k b r he hm hb ha).head (fs_cond hcv) fun _ h => h
    · rename_i hc
      have hv := ev_ok he (fr b t df (.code (.cond c x y) :: k)) rfl hc
      generalize hcv : (fr b t df (.code (.cond c x y) :: k)).eval c = cv at hv
      cases hv
      exact (ihy _ _ _ e ρ w t df k b r he hm hb ha).head (fs_cond hcv) fun _ h => h
    · cases e
  | block id c ih =>
    intro s o s' e ρ w t df k b r he hm hb ha
    simp only [evC] at e
    split at e
    · rename_i id' s1 hx
      obtain ⟨ρ1, w1, t1, df1, k1, a1, a2, a3⟩ := (ih _ _ _ hx ρ w t df (.inBlock id :: k) b r he hm hb ha).ex
      obtain ⟨k2, rfl, a2⟩ := a2
      split at e
      · rename_i hid
        cases e
        have := beq_eq' hid
        subst this
        simp only [exitTo, beq_self_eq_true, if_true] at a2
        exact ⟨ρ1, w1, t1, df1, k, .head fs_block (a1.trans (.one (fs_exit a2))), rfl, a3⟩
      · rename_i hid
        cases e
        have hne : id ≠ id' := fun h => by subst h; simp [Nat.beq_refl] at hid
        refine ⟨ρ1, w1, t1, df1, _, .head fs_block a1, ⟨k2, rfl, a2.trans ?_⟩, a3⟩
        simp [exitTo, hne]
    · rename_i hne
      obtain ⟨ρ1, w1, t1, df1, k1, a1, a2, a3⟩ := (ih _ _ _ e ρ w t df (.inBlock id :: k) b r he hm hb ha).ex
      cases o with
      | normal =>
        cases a2
        exact ⟨ρ1, w1, t1, df1, k, .head fs_block (a1.trans (.one fs_inBlock)), rfl, a3⟩
      | exit i => exact absurd e (hne i s')
      | ret => exact ⟨ρ1, w1, t1, df1, k1, .head fs_block a1, a2, a3⟩
  | loop c ih =>
    intro s o s' e ρ w t df k b r he hm hb ha
    have key : ∀ (m : Nat) (s : St) (o : Out) (s' : St), iterL (T.gc fnid) (evC T rec fnid n ar lf c) m s = some (o, s') → ∀ (ρ : Ren) (w : World) (t : Array Value) (df : List Deferred), Rel ρ s.h w → ER ρ w s.env n t → Marks ρ s.mks df → Around ρ ar b.roundOf →
        Went P n b cs (lone (fr b t df (.code c :: .inLoop c :: k)) cs w) o k ar df ρ s.h w s' := by
      intro m
      induction m with
      | zero => intro s o s' e; simp [iterL] at e
      | succ m ihm =>
        intro s o s' e ρ w t df r he hm ha
        simp only [iterL] at e
        split at e
        · cases e
        · rename_i s1 hx
          obtain ⟨ρ1, w1, t1, df1, k1, a1, a2, a3, a4, a5, a6, a7⟩ := (ih _ _ _ hx ρ w t df (.inLoop c :: k) b r he hm hb ha).ex
          cases a2
          obtain ⟨g3, g6⟩ := a3.sub (hT.gc fnid s1.h).1 (hT.gc fnid s1.h).2
          obtain ⟨ρ2, w2, t2, df2, k2, b1, b2, b3, b4, b5, b6, b7⟩ := (ihm _ _ _ e ρ1 w1 t1 df1 g3 a4 a5 (ha.mono a6.mono)).ex
          exact ⟨ρ2, w2, t2, df2, k2, a1.trans (.head fs_inLoop b1), b2, b3, b4, b5, a6.trans (g6.trans b6), fun hh => (b7 hh).trans (a7 hh)⟩
        · rename_i id s1 hx
          cases e
          obtain ⟨ρ1, w1, t1, df1, k1, a1, a2, a3⟩ := (ih _ _ _ hx ρ w t df (.inLoop c :: k) b r he hm hb ha).ex
          exact ⟨ρ1, w1, t1, df1, k1, a1, a2.up (by simp) (fun id _ => by simp [exitTo]), a3⟩
        · rename_i s1 hx
          cases e
          obtain ⟨ρ1, w1, t1, df1, k1, a1, a2, a3⟩ := (ih _ _ _ hx ρ w t df (.inLoop c :: k) b r he hm hb ha).ex
          exact ⟨ρ1, w1, t1, df1, k1, a1, a2.up (by simp) (fun id hh => by cases hh), a3⟩
    exact (key lf s o s' (by simpa only [evC] using e) ρ w t df r he hm ha).head fs_loop fun _ h => h
  | scope c ih =>
    intro s o s' e ρ w t df k b r he hm hb ha
    simp only [evC] at e
    obtain ⟨ρ1, w1, t1, df1, k1, a1, a2, a3⟩ := (ih _ _ _ e ρ w t df (.inScope c :: k) b r he hm hb ha).ex
    cases o with
    | normal =>
      cases a2
      exact ⟨ρ1, w1, t1, df1, k, .head fs_scope (a1.trans (.one fs_inScope)), rfl, a3⟩
    | exit i => exact ⟨ρ1, w1, t1, df1, k1, .head fs_scope a1, a2.up (by simp) (fun id _ => by simp [exitTo]), a3⟩
    | ret => exact ⟨ρ1, w1, t1, df1, k1, .head fs_scope a1, a2, a3⟩
  | exit id =>
    intro s o s' e ρ w t df k b r he hm hb ha
    simp only [evC, Option.some.injEq, Prod.mk.injEq] at e
    obtain ⟨rfl, rfl⟩ := e
    exact ⟨ρ, w, t, df, _, Steps.refl _ _, ⟨k, rfl, rfl⟩, r, he, hm, Ext.refl _ _ _ _, fun _ => rfl⟩
  | ret =>
    intro s o s' e ρ w t df k b r he hm hb ha
    simp only [evC, Option.some.injEq, Prod.mk.injEq] at e
    obtain ⟨rfl, rfl⟩ := e
    exact ⟨ρ, w, t, df, _, Steps.refl _ _, ⟨k, rfl⟩, r, he, hm, Ext.refl _ _ _ _, fun _ => rfl⟩
  | rangeFunc g ps x y ihx ihy =>
    intro s o s' e ρ w t df k b r he hm hb ha
    simp only [evC] at e
    split at e
    · rename_i gf first cap hg
      split at e
      · rename_i dd s1 hd
        split at e
        · rename_i v h3 hr3
          split at e
          · rename_i o4 h4 hend
            cases e
            obtain ⟨lb, mark, w1, ρ1, l1, l2, l3, l4, l5, l6, l7⟩ := enterLoop_ok (P := P) (fnid := fnid) r he hm ha hd ps x y
            have hv := (ev_ok he (fr b t df (.code (.rangeFunc g ps x y) :: k)) rfl hg).mono l6.grow
            generalize hcv : (fr b t df (.code (.rangeFunc g ps x y) :: k)).eval g = cv at hv
            cases hv with | fn _ _ _ ca cb hx hxs hy hys =>
            have hvl : VL ρ1 w1 (first ++ [.yld s1.h.next] ++ cap) (ca ++ [.func (.yield lb) #[] #[]] ++ cb) :=
              (VL.append (VL.append ⟨hx, hxs⟩ ⟨rfl, fun i x c h1 h2 => by
                cases i with
                | zero => simp at h1 h2; subst h1; subst h2; exact .yld l4
                | succ i => simp at h1⟩) ⟨hy, hys⟩)
            obtain ⟨⟨fn, hfn, hbody⟩, hgo⟩ := hrec _ _ _ _ _ hr3 ρ1 w1 _ l3 hvl
            obtain ⟨ρ3, w3, cv3, q1, q2, q3, q4⟩ := hgo (fr b t (mark ++ df) (.inRangeFunc lb :: k)) cs
            obtain ⟨jump, w4, p1, p2, p3, p4⟩ := endL_ok (P := P) q2 (q4.mono _ _ l4) hend
            have hcv' : ({ tmps := t, defers := df } : Act).eval g = .func (.func gf) ca.toArray cb.toArray := by
              rw [← hcv, fr_atR]; exact (congrFun (Frame.eval_atR _ _ _) g).symm
            have s0 := stepR_rangeFunc (P := P) (b := b) (a := { tmps := t, defers := df }) (k := k) (cs := cs) (w := w) (g := g) (ps := ps) (assign := x) (body := y) (l := lb) (mark := mark) (w₁ := w1) (w₁' := w1) (w₂ := w1)
              (d := { target := .fn (.func gf) cb.toArray, args := ca.toArray ++ #[Value.func (.yield lb) #[] #[]] }) (f := gf) (args := (ca ++ [Value.func (.yield lb) #[] #[]] ++ cb).toArray)
              (by rw [hb]; exact l1)
              (by
                show Sem.run P (resolve _ _ 0) w1 = _
                simp only [resolve, hcv', Deferred.ofValue]
                simp [Act.eval])
              (by
                simp only [invoke]
                rw [run_callFunc hT gf hfn hbody]
                simp)
            refine ⟨ρ3, w4, t, mark ++ df, _, .head s0 (q1.trans (.one (stepR_endRangeFunc (b := b) (a := { tmps := t, defers := mark ++ df }) p1))), p2 k, p3, ?_, l5.mono (fun i b hb => p4.mono _ _ (q4.mono _ _ hb)), l6.trans (q4.trans p4), fun hh => by rw [l7 hh]; rfl⟩
            show ER ρ3 w4 s1.env n t
            rw [l2]
            exact he.mono ((l6.trans (q4.trans p4)).grow)
          · cases e
        · cases e
      · cases e
    · cases e
  | _ =>
    intro s o s' e
    simp only [evC] at e
    cases e

end
end Cv

/- Soundness: calls. -/
set_option linter.unusedVariables false
set_option linter.unusedSimpArgs false
namespace Cv
open Go

/-- one result -/
def resF (t : Array Value) (x : ResultVar) : Sem Value := match x with
  | .tmp i => pure (t.getD i undef)
  | .cell a ty => do loadVar ty (← asAddr (t.getD a undef))

theorem results_eq (fn : Func) (t : Array Value) : results fn t = (do
    let vs ← fn.results.mapM (resF t)
    pure (if h : vs.size = 1 then vs[0] else .tuple vs)) := by
  unfold results
  congr 1

section
variable {T : Tab} {P : Program} (hT : TabOk T P) {rec : Rec} (hrec : RecOk P rec)
include hT hrec

omit hT hrec in
theorem bindArgs_get : ∀ (l : List AVal) (i : Nat) (t : Tree AVal) (j : Nat) (x : AVal), (bindArgs l i t).get j = some x → (i ≤ j ∧ l[j - i]? = some x) ∨ t.get j = some x
  | [], i, t, j, x, h => .inr h
  | v :: l, i, t, j, x, h => by
    rcases bindArgs_get l (Nat.succ i) (t.set i v) j x h with ⟨h1, h2⟩ | h1
    · refine .inl ⟨by omega, ?_⟩
      have : j - i = (j - (i + 1)) + 1 := by omega
      rw [this]; simpa using h2
    · rcases Tree.get_set h1 with ⟨e1, e2⟩ | ⟨e1, e2⟩
      · subst e1; subst e2
        exact .inl ⟨Nat.le_refl _, by simp⟩
      · exact .inr e2

omit hT hrec in
theorem enter_ER {ρ : Ren} {w : World} {args : List AVal} {cargs : List Value} (h : VL ρ w args cargs) {n : Nat} (hn : args.length ≤ n) :
    ER ρ w (bindArgs args 0 .lf) n (cargs.toArray ++ Array.replicate (n - cargs.toArray.size) undef) := by
  refine ⟨by have := h.1; simp; omega, fun j x hx => ?_⟩
  rcases bindArgs_get _ _ _ _ _ hx with ⟨_, h2⟩ | h2
  · rw [Nat.sub_zero] at h2
    have hj : j < args.length := (List.getElem?_eq_some_iff.1 h2).1
    have hj' : j < cargs.length := by have := h.1; omega
    refine ⟨cargs[j], ?_, h.2 j x _ h2 (by simp [hj'])⟩
    rw [Array.getElem?_append_left (by simpa using hj')]
    simp [hj']
  · simp [Tree.get] at h2

omit hT hrec in
theorem takeD_ok {cs : List Frame} {f : Frame} : ∀ (ms : List Nat) (ds : List Deferred) (h h' : Heap) (ρ : Ren) (w : World), takeD ms h = some h' → Rel ρ h w → Marks ρ ms ds →
    ∃ w', Steps P (lone { f with mode := .returning, defers := ds } cs w) (lone { f with mode := .returning, defers := [] } cs w') ∧ Rel ρ h' w' ∧ Ext (fun _ => False) ρ h w ρ h' w' := by
  intro ms
  induction ms with
  | nil =>
    intro ds h h' ρ w e r hm
    cases hm
    simp only [takeD, Option.some.injEq] at e
    subst e
    exact ⟨w, Steps.refl _ _, r, Ext.refl _ _ _ _⟩
  | cons m ms ih =>
    intro ds h h' ρ w e r hm
    cases hm with
    | cons hb hm' =>
    rename_i b ds'
    simp only [takeD] at e
    split at e
    · rename_i hg
      obtain ⟨b', ob, h1, h2, h3⟩ := r.obj _ _ hg
      rw [hb] at h1; cases h1
      generalize hdt : AObj.dfr false = dt at h3
      cases h3 <;> cases hdt
      simp only [Bool.false_eq_true, if_false] at h2
      have hrun := run_takeDeferred (P := P) h2
      obtain ⟨q1, q2⟩ := r.turn (w' := w.putObj b (.deferred none)) (o' := .dfr true) hg hb h2 rfl rfl rfl rfl
        (by
          intro e0 n0 hs
          simp only [World.shape?, h2] at hs
          cases hs)
        (by simpa using OR.dfr (ρ := ρ) (w := w) true)
      obtain ⟨w', s1, s2, s3⟩ := ih ds' _ _ ρ _ e q1 hm'
      refine ⟨w', .head (step_collected (fr := { f with mode := .returning, defers := { target := .collected b, args := #[] } :: ds' }) (by simp) rfl rfl hrun) ?_, s2, q2.trans s3⟩
      exact s1
    · cases e

omit hrec in
theorem resOf_ok {ρ : Ren} {h : Heap} {w : World} (r : Rel ρ h w) {env : Tree AVal} {n : Nat} {t : Array Value} (he : ER ρ w env n t) : ∀ (l : List ResultVar) (xs : List AVal), resOf T h env l = some xs →
    ∃ cs, (l.mapM (resF t)).run P w = .ok cs w ∧ VL ρ w xs cs := by
  intro l
  induction l with
  | nil =>
    intro xs e
    simp only [resOf, Option.some.injEq] at e
    subst e
    exact ⟨[], by simp, rfl, by simp⟩
  | cons x l ih =>
    intro xs e
    have cons : ∀ {v : AVal} {rs : List AVal} {c : Value} {cs : List Value}, V ρ w v c → VL ρ w rs cs → VL ρ w (v :: rs) (c :: cs) := fun hv hl => by
      refine ⟨by simp [hl.1], fun i x c hx hc => ?_⟩
      cases i with
      | zero => simp at hx hc; subst hx; subst hc; exact hv
      | succ i => exact hl.2 i x c (by simpa using hx) (by simpa using hc)
    cases x with
    | tmp i =>
      simp only [resOf] at e
      split at e
      · rename_i v rs hv hrs
        cases e
        obtain ⟨cs, h1, h2⟩ := ih _ hrs
        obtain ⟨c, h3, h4⟩ := he.2 _ _ hv
        refine ⟨c :: cs, ?_, cons h4 h2⟩
        have hF : resF t (.tmp i) = pure c := by simp only [resF, Array.getD_eq_getD_getElem?, h3, Option.getD_some]
        rw [List.mapM_cons, hF]
        simp only [pure_bind, Sem.run_bind, h1, Result.andThen, Sem.run_pure]
      · cases e
    | cell a ty =>
      simp only [resOf] at e
      split at e
      · rename_i p hp
        split at e
        · rename_i v rs hv hrs
          cases e
          obtain ⟨cs, h1, h2⟩ := ih _ hrs
          obtain ⟨cp, h3, h4⟩ := he.2 _ _ hp
          obtain ⟨d, h5, h6, ad, h7, h8⟩ := opLoad_ok hT hv r h4
          refine ⟨d :: cs, ?_, cons h6 h2⟩
          subst h7
          have hF : (resF t (.cell a ty)).run P w = .ok d w := by
            simp only [resF, Array.getD_eq_getD_getElem?, h3, Option.getD_some, asAddr, pure_bind, h8]
          rw [List.mapM_cons]
          simp only [Sem.run_bind, hF, h1, Result.andThen, Sem.run_pure]
        · cases e
      · cases e

omit hrec in
theorem results_ok {ρ : Ren} {h : Heap} {w : World} (r : Rel ρ h w) {env : Tree AVal} {n : Nat} {t : Array Value} (he : ER ρ w env n t) {fn : Func} {xs : List AVal} (e : resOf T h env fn.results.toList = some xs) :
    ∃ c, (results fn t).run P w = .ok c w ∧ V ρ w (pack xs) c := by
  obtain ⟨cs, h1, h2⟩ := resOf_ok hT r he _ _ e
  refine ⟨if h : cs.toArray.size = 1 then cs.toArray[0] else .tuple cs.toArray, ?_, ?_⟩
  · rw [results_eq, Array.mapM_eq_mapM_toList]
    simp only [map_eq_pure_bind, Sem.run_bind, h1, Result.andThen, Sem.run_pure]
  · rcases xs with _ | ⟨x, _ | ⟨y, xs⟩⟩
    · have : cs = [] := by have := h2.1; cases cs <;> simp at this ⊢
      subst this
      simp only [pack]
      exact .tup [] [] rfl (by simp)
    · have hl := h2.1
      rcases cs with _ | ⟨c, _ | ⟨c', cs⟩⟩ <;> simp at hl
      simp only [pack]
      exact h2.2 0 x c rfl rfl
    · have hl := h2.1
      rcases cs with _ | ⟨c, _ | ⟨c', cs⟩⟩ <;> simp at hl
      simp only [pack]
      have : ¬ ((c :: c' :: cs).toArray.size = 1) := by simp
      rw [dif_neg this]
      exact .tup _ _ h2.1 h2.2

/-- how far a function's body comes: on its way out, its results at hand -/
theorem callBody_ok {lf : Nat} {f : FuncId} {args : List AVal} {h : Heap} {v : AVal} {h' : Heap} (e : callBody T rec lf f args h = some (v, h')) {ρ : Ren} {w : World} {cargs : List Value} (r : Rel ρ h w) (hv : VL ρ w args cargs) :
    (∃ fn, P.funcs[f]? = some fn ∧ fn.body.isSome = true) ∧ ∀ cs, ∃ ρ' w' cv fr', Steps P (lone (Frame.enter P f cargs.toArray .normal) cs w) (lone fr' cs w') ∧ fr'.fn = f ∧ fr'.leaving P w' (.returned cv) ∧
      Rel ρ' h' w' ∧ V ρ' w' v cv ∧ Ext (fun _ => False) ρ h w ρ' h' w' := by
  unfold callBody at e
  split at e
  · rename_i fn hfn
    have hf := hT.fn _ _ hfn
    split at e
    · rename_i c hc
      refine ⟨⟨fn, hf, by rw [hc]; rfl⟩, fun cs => ?_⟩
      split at e
      · rename_i hle
        have hle : args.length ≤ fn.ntmps := Nat.le_of_ble_eq_true hle
        have henter : Frame.enter P f cargs.toArray .normal =
            fr { (default : Frame) with fn := f, kind := .normal } (cargs.toArray ++ Array.replicate (fn.ntmps - cargs.toArray.size) undef) [] [.code c] := by
          simp [Frame.enter, fr, hf, hc]
          rfl
        have fin : ∀ (o : Out) (s : St), evC T rec f fn.ntmps none lf c ⟨bindArgs args 0 .lf, [], h⟩ = some (o, s) → o = .normal ∨ o = .ret → (match takeD s.mks s.h with
            | some h' => match resOf T h' s.env fn.results.toList with
              | some l => some (pack l, h')
              | none => none
            | none => none) = some (v, h') → ∃ ρ' w' cv fr', Steps P (lone (Frame.enter P f cargs.toArray .normal) cs w) (lone fr' cs w') ∧ fr'.fn = f ∧ fr'.leaving P w' (.returned cv) ∧
              Rel ρ' h' w' ∧ V ρ' w' v cv ∧ Ext (fun _ => False) ρ h w ρ' h' w' := by
          intro o s hev ho e2
          obtain ⟨ρ1, w1, t1, df1, k1, a1, a2, a3, a4, a5, a6, a7⟩ := (evC_ok hT hrec (cs := cs) c _ _ _ hev ρ w _ [] [] { (default : Frame) with fn := f, kind := .normal } r (enter_ER hv hle) .nil rfl trivial).ex
          rw [← henter] at a1
          split at e2
          · rename_i h2 htd
            split at e2
            · rename_i l hl
              cases e2
              have sret : step P (lone (fr { (default : Frame) with fn := f, kind := .normal } t1 df1 k1) cs w1) = .next (lone { fr { (default : Frame) with fn := f, kind := .normal } t1 df1 k1 with mode := .returning } cs w1) := by
                rcases ho with rfl | rfl
                · cases a2
                  exact stepR_end (b := { (default : Frame) with fn := f, kind := .normal }) (a := { tmps := t1, defers := df1 }) rfl
                · obtain ⟨k2, rfl⟩ := a2
                  exact stepR_ret (b := { (default : Frame) with fn := f, kind := .normal }) (a := { tmps := t1, defers := df1 }) rfl
              obtain ⟨w2, b1, b2, b3⟩ := takeD_ok (P := P) (cs := cs) (f := fr { (default : Frame) with fn := f, kind := .normal } t1 df1 k1) _ _ _ _ ρ1 w1 htd a3 a5
              obtain ⟨cv, c1, c2⟩ := results_ok hT b2 (a4.mono b3.grow) hl
              refine ⟨ρ1, w2, cv, _, a1.trans (.head sret b1), rfl, ⟨rfl, rfl, rfl, fn, hf, c1⟩, b2, c2, a6.trans b3⟩
            · cases e2
          · cases e2
        split at e
        · cases e
        · rename_i o s hne hev
          refine fin o s hev ?_ e
          cases o with
          | normal => exact .inl rfl
          | ret => exact .inr rfl
          | exit i => exact (hne i rfl).elim
        · cases e
      · cases e
    · cases e
  · cases e

omit hT hrec in
theorem bindPs_ok {ρ : Ren} {w : World} {n : Nat} : ∀ (ps : List Tmp) (vs : List AVal) (env env1 : Tree AVal) (cs : List Value) (t : Array Value), bindPs n ps vs env = some env1 → VL ρ w vs cs → ER ρ w env n t →
    cs.length = ps.length ∧ ER ρ w env1 n ((ps.zip cs).foldl (fun tmps (q : Tmp × Value) => tmps.setIfInBounds q.1 q.2) t)
  | [], [], env, env1, cs, t, e, hv, he => by
    simp only [bindPs, Option.some.injEq] at e
    subst e
    have : cs = [] := by have := hv.1; cases cs <;> simp at this ⊢
    subst this
    exact ⟨rfl, he⟩
  | p :: ps, v :: vs, env, env1, cs, t, e, hv, he => by
    simp only [bindPs] at e
    split at e
    · rename_i hp
      cases cs with
      | nil => have := hv.1; simp at this
      | cons c cs =>
        have he1 : ER ρ w (env.set p v) n (putC t (some p) c) := he.put (hv.2 0 v c rfl rfl) (by simp [putA, hp])
        obtain ⟨h1, h2⟩ := bindPs_ok ps vs (env.set p v) env1 cs _ e ⟨by have := hv.1; simpa using this, fun i x c' hx hc => hv.2 (i + 1) x c' (by simpa using hx) (by simpa using hc)⟩ he1
        exact ⟨by simp [h1], by simpa [putC] using h2⟩
    · cases e
  | [], _ :: _, env, env1, cs, t, e, hv, he => by simp [bindPs] at e
  | _ :: _, [], env, env1, cs, t, e, hv, he => by simp [bindPs] at e

theorem yldBody_ok {lf : Nat} {id : Nat} {args : List AVal} {h : Heap} {v : AVal} {h' : Heap} (e : yldBody T rec lf id args h = some (v, h')) {ρ : Ren} {w : World} {cargs : List Value} (r : Rel ρ h w) (hv : VL ρ w args cargs) {lb : Nat} (hlb : ρ id = some lb) :
    ∃ f tmps as_ bo, (Instr.yield lb cargs.toArray).run P w = .ok (.round lb f tmps as_ bo) w ∧
      ∀ c cs, ∃ ρ' w' cv, Steps P (lone (Frame.round lb f tmps as_ bo .normal) (c :: cs) w) (lone (c.finish cv) cs w') ∧ Rel ρ' h' w' ∧ V ρ' w' v cv ∧ Ext (fun _ => False) ρ h w ρ' h' w' := by
  unfold yldBody at e
  split at e
  · rename_i pd fn env n ps a bd dd hg
    obtain ⟨b', ob, h1, h2, h3⟩ := r.obj _ _ hg
    rw [hlb] at h1; cases h1
    cases h3 with
    | loop _ _ _ _ _ _ _ _ tm he hd =>
    split at e
    · rename_i env1 hbind
      obtain ⟨hlen, he1⟩ := bindPs_ok _ _ _ _ _ _ hbind hv he
      have hy := run_yield (P := P) (args := cargs.toArray) h2 (by simpa using hlen)
      have htm : (ps.toArray.zip cargs.toArray).foldl (fun tmps (q : Tmp × Value) => tmps.setIfInBounds q.1 q.2) tm = (ps.zip cargs).foldl (fun tmps (q : Tmp × Value) => tmps.setIfInBounds q.1 q.2) tm := by
        simp
      refine ⟨_, _, _, _, hy, fun c cs => ?_⟩
      generalize hb : ({ (default : Frame) with fn := fn, kind := .normal, roundOf := some lb } : Frame) = b
      have hround : Frame.round lb fn ((ps.toArray.zip cargs.toArray).foldl (fun tmps (q : Tmp × Value) => tmps.setIfInBounds q.1 q.2) tm) a bd .normal =
          fr b ((ps.zip cargs).foldl (fun tmps (q : Tmp × Value) => tmps.setIfInBounds q.1 q.2) tm) [] [.code a, .beginRound, .code bd] := by
        rw [← htm, ← hb]; simp [Frame.round, fr]
      have hro : b.roundOf = some lb := by rw [← hb]
      have hkd : b.kind = .normal := by rw [← hb]
      have hbf : b.fn = fn := by rw [← hb]
      split at e
      · rename_i s1 hev1
        obtain ⟨ρ1, w1, t1, df1, k1, a1, a2, a3, a4, a5, a6, a7⟩ := (evC_ok hT hrec (cs := c :: cs) a _ _ _ hev1 ρ w _ [] [.beginRound, .code bd] b r he1 .nil hbf (by rw [hro]; exact hlb)).ex
        cases a2
        have hdf := a7 rfl
        subst hdf
        rw [← hround] at a1
        split at e
        · rename_i p fn' env' n' ps' a' b' dd' hg1
          have hlb1 := a6.mono _ _ hlb
          obtain ⟨b'', ob1, g1, g2, g3⟩ := a3.obj _ _ hg1
          rw [hlb1] at g1; cases g1
          cases g3 with
          | loop _ _ _ _ _ _ _ _ tm1 hx1 hd1 =>
          have hbr := run_beginRound (P := P) g2 rfl
          rename_i bdd _ bdd1
          obtain ⟨q1, q2⟩ := a3.turn (w' := w1.putObj lb (.loop { state := .busy, pending := p, fn := fn', tmps := tm1, params := ps'.toArray, assign := a', body := b', defers := bdd1 })) (o' := .loop .busy p fn' env' n' ps' a' b' dd') hg1 hlb1 g2 rfl rfl rfl rfl
            (by
              intro e0 n0 hs
              simp only [World.shape?, g2] at hs
              cases hs)
            (by
              have := OR.loop (ρ := ρ1) (w := w1) .busy p fn' env' n' ps' a' b' tm1 hx1 hd1
              simpa [LState.conc] using this)
          split at e
          · rename_i o s2 hev2
            obtain ⟨ρ2, w2, t2, df2, k2, b1, b2, b3, b4, b5, b6, b7⟩ := (evC_ok hT hrec (cs := c :: cs) bd _ _ _ hev2 ρ1 _ t1 [] [] b q1 (a4.mono q2.grow) .nil hbf (by rw [hro]; exact hlb1)).ex
            have hdf := b7 rfl
            subst hdf
            split at e
            · rename_i p2 fn2 env2 n2 ps2 a2' b2' dd2 hg2
              have hlb2 := b6.mono _ _ hlb1
              obtain ⟨b''', ob2, g4, g5, g6⟩ := b3.obj _ _ hg2
              rw [hlb2] at g4; cases g4
              cases g6 with
              | loop _ _ _ _ _ _ _ _ tm2 hx2 hd2 =>
              rename_i bdd2
              have sbeg := stepR_beginRound (P := P) (b := b) (a := { tmps := t1, defers := [] }) (k := [.code bd]) (cs := c :: cs) hro hbr
              have fin : ∀ (jump : Option Code) (st : LState) (cv : Bool) (hh : Heap), st.conc = (if jump.isNone then LoopState.ready else LoopState.done) → cv = jump.isNone →
                  step P (lone (fr b t2 [] k2) (c :: cs) w2) = .next (lone (c.finish (.bool jump.isNone)) cs (w2.putObj lb (.loop { state := if jump.isNone then .ready else .done, pending := jump, fn := fn2, tmps := tm2, params := ps2.toArray, assign := a2', body := b2', defers := bdd2 }))) →
                  hh = s2.h.set id (.loop st jump fn2 env2 n2 ps2 a2' b2' dd2) →
                  ∃ ρ' w' cv', Steps P (lone (Frame.round lb fn ((ps.toArray.zip cargs.toArray).foldl (fun tmps (q : Tmp × Value) => tmps.setIfInBounds q.1 q.2) tm) a bd .normal) (c :: cs) w) (lone (c.finish cv') cs w') ∧ Rel ρ' hh w' ∧ V ρ' w' (.bool cv) cv' ∧ Ext (fun _ => False) ρ h w ρ' hh w' := by
                intro jump st cv hh hst hcv hstep hhh
                subst hhh
                obtain ⟨z1, z2⟩ := b3.turn (w' := w2.putObj lb (.loop { state := if jump.isNone then .ready else .done, pending := jump, fn := fn2, tmps := tm2, params := ps2.toArray, assign := a2', body := b2', defers := bdd2 })) (o' := .loop st jump fn2 env2 n2 ps2 a2' b2' dd2) hg2 hlb2 g5 rfl rfl rfl rfl
                  (by
                    intro e0 n0 hs
                    simp only [World.shape?, g5] at hs
                    cases hs)
                  (by
                    have := OR.loop (ρ := ρ2) (w := w2) st jump fn2 env2 n2 ps2 a2' b2' tm2 hx2 hd2
                    rw [hst] at this
                    exact this)
                refine ⟨ρ2, _, _, a1.trans (.head sbeg (b1.trans (.one hstep))), z1, ?_, a6.trans (q2.trans (b6.trans z2))⟩
                rw [hcv]; exact .bool _
              split at e
              · cases e
                have hk := b2
                cases hk
                exact fin none .ready true _ rfl rfl (stepR_round_end (b := b) (a := { tmps := t2, defers := [] }) hro hkd (run_endRound none g5)) rfl
              · cases e
                obtain ⟨k3, rfl⟩ := b2
                exact fin (some .ret) .done false _ rfl rfl (stepR_round_ret (b := b) (a := { tmps := t2, defers := [] }) hro hkd (run_endRound (some .ret) g5)) rfl
              · rename_i i
                cases e
                obtain ⟨k3, rfl, hx⟩ := b2
                exact fin (some (.exit i)) .done false _ rfl rfl (stepR_round_exit (b := b) (a := { tmps := t2, defers := [] }) hro hkd (by rw [hx]; rfl) (run_endRound (some (.exit i)) g5)) rfl
            · cases e
          · cases e
        · cases e
      · cases e
    · cases e
  · cases e

end

/-- what is known beforehand, as RecOk asks it -/
def KnownOk (P : Program) (kn : Known) : Prop :=
  ∀ f args h v h', kn f args h = some (v, h') → ∀ ρ w cargs, Rel ρ h w → VL ρ w args cargs →
    (∃ fn, P.funcs[f]? = some fn ∧ fn.body.isSome = true) ∧ ∀ c cs, ∃ ρ' w' cv, Steps P (lone (Frame.enter P f cargs.toArray .normal) (c :: cs) w) (lone (c.finish cv) cs w') ∧ Rel ρ' h' w' ∧ V ρ' w' v cv ∧ Ext (fun _ => False) ρ h w ρ' h' w'

theorem kn0_ok (P : Program) : KnownOk P kn0 := fun _ _ _ _ _ h => by simp [kn0] at h

theorem recN_ok {T : Tab} {P : Program} (hT : TabOk T P) {kn : Known} (hk : KnownOk P kn) {lf : Nat} : ∀ d, RecOk P (recN T kn lf d)
  | 0, who, args, h, v, h', e => by simp [recN] at e
  | d + 1, who, args, h, v, h', e => by
    intro ρ w cargs r hv
    cases who with
    | fn f =>
      simp only [recN] at e
      split at e
      · rename_i q hq
        cases e
        exact hk _ _ _ _ _ hq ρ w cargs r hv
      · obtain ⟨h1, h2⟩ := callBody_ok hT (recN_ok hT hk d) e r hv
        refine ⟨h1, fun c cs => ?_⟩
        obtain ⟨ρ', w', cv, fr', s1, s2, s3, s4, s5, s6⟩ := h2 (c :: cs)
        exact ⟨ρ', w', cv, s1.trans (.one (step_leave_returned s3)), s4, s5, s6⟩
    | yld id =>
      intro b hb
      simp only [recN] at e
      exact yldBody_ok hT (recN_ok hT hk d) e r hv hb

/-- a call's contract out of a run of the evaluator -/
theorem calls_of_run {T : Tab} {P : Program} (hT : TabOk T P) {rec : Rec} (hrec : RecOk P rec) {lf : Nat} {f : FuncId} {args : List AVal} {h : Heap} {v : AVal} {h' : Heap} (e : callBody T rec lf f args h = some (v, h')) {ρ : Ren} {w : World} {cargs : List Value} (r : Rel ρ h w) (hv : VL ρ w args cargs) :
    Calls P f cargs.toArray w fun e w' => match e with
      | .returned cv => ∃ ρ', Rel ρ' h' w' ∧ V ρ' w' v cv ∧ Ext (fun _ => False) ρ h w ρ' h' w'
      | _ => False := by
  intro cs
  obtain ⟨_, h2⟩ := callBody_ok hT hrec e r hv
  obtain ⟨ρ', w', cv, fr', s1, s2, s3, s4, s5, s6⟩ := h2 cs
  exact ⟨.returned cv, w', fr', ⟨ρ', s4, s5, s6⟩, s1, s2, s3⟩

end Cv

/- The evaluator once more, made for the kernel: small constants, recursors; the same function. -/
set_option linter.unusedVariables false
set_option linter.unusedSimpArgs false
namespace Cv
open Go
noncomputable section

/-! ### Trees -/

abbrev getF {α : Type} (t : Tree α) : Nat → Option α := t.get
theorem getF_eq {α : Type} (t : Tree α) (n : Nat) : getF t n = t.get n := rfl
abbrev putF {α : Type} (f : Nat) : Tree α → Nat → Option α → Tree α := Tree.put f
theorem putF_eq {α : Type} (f : Nat) (t : Tree α) (n : Nat) (x : Option α) : putF f t n x = Tree.put f t n x := rfl

def setF {α : Type} (t : Tree α) (n : Nat) (x : α) : Tree α := putF 24 t n (some x)
theorem setF_eq {α : Type} (t : Tree α) (n : Nat) (x : α) : setF t n x = t.set n x := rfl

/-! ### Operands -/

/-- what follows where something is come to -/
def ob {α β : Type} (e : Option α) (f : α → Option β) : Option β := @Option.rec α (fun _ => Option β) none f e

def evF (env : Tree AVal) (x : Operand) : Option AVal :=
  @Operand.rec (fun _ => Option AVal) (fun t => getF env t) (fun v => ofConst v) (fun _ => none) (fun f => some (.fn f [] [])) x

theorem evF_eq (env : Tree AVal) (x : Operand) : evF env x = ev env x := by
  cases x with
  | tmp t => exact getF_eq _ _
  | _ => rfl

def omapF {α β : Type} (f : α → Option β) (l : List α) : Option (List β) :=
  @List.rec α (fun _ => Option (List β)) (some []) (fun a _ ih => ob (f a) fun b => ob ih fun r => some (b :: r)) l

theorem omapF_eq {α β : Type} (f : α → Option β) (l : List α) : omapF f l = omap f l := by
  induction l with
  | nil => rfl
  | cons a l ih =>
    show ob (f a) (fun b => ob (omapF f l) fun r => some (b :: r)) = _
    rw [ih, omap]
    cases f a with
    | none => rfl
    | some b => cases omap f l <;> rfl

def evsF (env : Tree AVal) (l : List Operand) : Option (List AVal) := omapF (evF env) l
theorem evsF_eq (env : Tree AVal) (l : List Operand) : evsF env l = evs env l := by
  unfold evsF evs
  rw [omapF_eq, funext (evF_eq env)]

abbrev nthF {α : Type} (l : List α) : Nat → Option α := nth l
theorem nthF_eq {α : Type} (l : List α) (n : Nat) : nthF l n = nth l n := rfl

/-! ### Operations -/

abbrev K := Tab → Rec → Tree AVal → Heap → Nat → Option (AVal × Heap)

def retF (h : Heap) (e : Option AVal) : Option (AVal × Heap) := @Option.rec AVal (fun _ => Option (AVal × Heap)) none (fun v => some (v, h)) e
theorem retF_eq (h : Heap) (e : Option AVal) : retF h e = withH h e := by cases e <;> rfl

def fMove (x : Operand) : K := fun T rec env h rid => retF h (evF env x)
def fLoad (t : TypeId) (a : Operand) : K := fun T rec env h rid => ob (evF env a) fun v => retF h (opLoad T h t v)
def fStore (t : TypeId) (a x : Operand) : K := fun T rec env h rid => ob (evF env a) fun p => ob (evF env x) fun v => done (opStore T h t p v)
def fBin (op : BinOp) (t : TypeId) (x y : Operand) : K := fun T rec env h rid => ob (evF env x) fun a => ob (evF env y) fun b => retF h (opBin T op t a b)
def fUn (op : UnOp) (x : Operand) : K := fun T rec env h rid => ob (evF env x) fun a => retF h (opUn op a)
def fFieldAddr (s : TypeId) (x : Operand) (f : Nat) : K := fun T rec env h rid => ob (evF env x) fun v => retF h (opFieldAddr T s v f)
def fField (s : TypeId) (x : Operand) (f : Nat) : K := fun T rec env h rid => ob (evF env x) fun v => retF h (opField T s v f)
def fIndexAddr (t : TypeId) (x i : Operand) : K := fun T rec env h rid => ob (evF env x) fun v => ob (evF env i) fun n => retF h (opIndexAddr T t v n)
def fIndex (t : TypeId) (x i : Operand) : K := fun T rec env h rid => ob (evF env x) fun v => ob (evF env i) fun n => retF h (opIndex T t v n)
def fLookup (t : TypeId) (m k : Operand) (ok : Bool) : K := fun T rec env h rid => ob (evF env m) fun v => ob (evF env k) fun n => retF h (opLookup T h t v n ok)
def fMapUpdate (t : TypeId) (m k x : Operand) : K := fun T rec env h rid => ob (evF env m) fun a => ob (evF env k) fun b => ob (evF env x) fun c => done (opMapUpdate T h t a b c)
def fAlloc (t : TypeId) : K := fun T rec env h rid => made h rid (mkOp T env rid (.alloc t))
def fBox (t : TypeId) (x : Operand) : K := fun T rec env h rid => ob (evF env x) fun v => made h rid (opBox rid t v)
def fExtract (t : Operand) (i : Nat) : K := fun T rec env h rid => ob (evF env t) fun v => (match v with | .tup l => retF h (nthF l i) | _ => none)
def fNilCheck (x : Operand) : K := fun T rec env h rid => ob (evF env x) fun v => (match v with
  | .ptr id off => some (.ptr id off, h)
  | .fn f a b => some (.fn f a b, h)
  | .yld id => some (.yld id, h)
  | .ifc t v => some (.ifc t v, h)
  | _ => none)
def pairF (env : Tree AVal) (p : Nat × Operand) : Option (Nat × AVal) := ob (evF env p.2) fun v => some (p.1, v)
def pairsF (env : Tree AVal) (l : List (Nat × Operand)) : Option (List (Nat × AVal)) := omapF (pairF env) l
theorem pairsF_eq (env : Tree AVal) (l : List (Nat × Operand)) : pairsF env l = pairs env l := by
  unfold pairsF pairs
  rw [omapF_eq]
  congr 1
  funext p
  unfold pairF
  rw [evF_eq]
  cases ev env p.2 <;> rfl
def fBuild (t : TypeId) (ps : Array (Nat × Operand)) : K := fun T rec env h rid => ob (pairsF env ps.toList) fun l => retF h (opBuild T t l)
def oevF (env : Tree AVal) (x : Option Operand) : Option (Option AVal) := @Option.rec Operand (fun _ => Option (Option AVal)) (some none) (fun x => ob (evF env x) fun v => some (some v)) x
theorem oevF_eq (env : Tree AVal) (x : Option Operand) : oevF env x = oev env x := by
  cases x with
  | none => rfl
  | some x =>
    show ob (evF env x) _ = _
    rw [evF_eq]
    simp only [oev]
    cases ev env x <;> rfl
def fSlice (t : TypeId) (x : Operand) (lo hi mx : Option Operand) : K := fun T rec env h rid => ob (evF env x) fun v => ob (oevF env lo) fun a => ob (oevF env hi) fun b => ob (oevF env mx) fun c => retF h (opSlice T h t v a b c)
def fConvert (s d : TypeId) (x : Operand) : K := fun T rec env h rid => ob (evF env x) fun a => opConvert T h rid s d a

def fCallV (args : Array Operand) (f : Operand) : K := fun T rec env h rid => ob (evF env f) fun v => ob (evsF env args.toList) fun l => ob (calleeOf v l) fun p => rec p.1 p.2 h
def fCallB (args : Array Operand) (ts : Array TypeId) (b : Builtin) : K := fun T rec env h rid => ob (evsF env args.toList) fun l => evBuiltin T h rid b ts.toList l
def fCall (c : Call) : K := @Callee.rec (fun _ => K) (fCallV c.args) (fun r m T rec env h rid => none) (fCallB c.args c.argTypes) c.callee

def no1 : Operand → K := fun _ T rec env h rid => none

def doF (o : Op) : K :=
  @Op.rec (fun _ => K) fMove fMove
    (fun c a b T rec env h rid => doOp T rec env h rid (.pick c a b)) fAlloc fBox fBuild
    (fun t n ps T rec env h rid => doOp T rec env h rid (.buildSlice t n ps))
    (fun t m k v T rec env h rid => doOp T rec env h rid (.insert t m k v)) fLoad fStore
    (fun g T rec env h rid => doOp T rec env h rid (.ready g))
    (fun g T rec env h rid => doOp T rec env h rid (.waits g)) fNilCheck
    (fun op t x y _ => fBin op t x y) (fun op _ x => fUn op x) fConvert
    (fun d x T rec env h rid => doOp T rec env h rid (.sliceToArrayPointer d x))
    (fun t x T rec env h rid => doOp T rec env h rid (.makeInterface t x))
    (fun f a c T rec env h rid => doOp T rec env h rid (.makeFunc f a c))
    (fun t r T rec env h rid => doOp T rec env h rid (.makeMap t r))
    (fun t s T rec env h rid => doOp T rec env h rid (.makeChan t s))
    (fun t l c T rec env h rid => doOp T rec env h rid (.makeSlice t l c)) fSlice fFieldAddr fField fIndexAddr fIndex fLookup fMapUpdate
    (fun t m k T rec env h rid => doOp T rec env h rid (.mapEntry t m k))
    (fun t m k v T rec env h rid => doOp T rec env h rid (.entryStore t m k v))
    (fun t x T rec env h rid => doOp T rec env h rid (.range t x))
    (fun i s T rec env h rid => doOp T rec env h rid (.next i s))
    (fun i T rec env h rid => doOp T rec env h rid (.entry i))
    (fun x t a c T rec env h rid => doOp T rec env h rid (.typeAssert x t a c)) fExtract fCall
    (fun c T rec env h rid => doOp T rec env h rid (.go c))
    (fun c T rec env h rid => doOp T rec env h rid (.defer c))
    (fun c T rec env h rid => doOp T rec env h rid (.panic c))
    (fun c x T rec env h rid => doOp T rec env h rid (.send c x))
    (fun t c k T rec env h rid => doOp T rec env h rid (.recv t c k))
    (fun c k T rec env h rid => doOp T rec env h rid (.select c k)) o

theorem doF_eq (T : Tab) (rec : Rec) (env : Tree AVal) (h : Heap) (rid : Nat) (o : Op) : doF o T rec env h rid = doOp T rec env h rid o := by
  cases o
  case move x => show retF h (evF env x) = _; rw [retF_eq, evF_eq]; rfl
  case assign x => show retF h (evF env x) = _; rw [retF_eq, evF_eq]; rfl
  case alloc t => rfl
  case box t x =>
    show ob (evF env x) _ = made h rid (mkOp T env rid (.box t x))
    rw [evF_eq]; simp only [mkOp]; cases ev env x <;> rfl
  case build t ps =>
    show ob (pairsF env ps.toList) _ = _
    rw [pairsF_eq]; simp only [doOp, evOp]; cases pairs env ps.toList <;> first | rfl | exact retF_eq _ _
  case load t a =>
    show ob (evF env a) _ = _
    rw [evF_eq]; simp only [doOp, evOp]; cases ev env a <;> first | rfl | exact retF_eq _ _
  case store t a x =>
    show ob (evF env a) (fun p => ob (evF env x) _) = _
    rw [evF_eq, evF_eq]; simp only [doOp, evOp]; cases ev env a <;> cases ev env x <;> first | rfl | exact retF_eq _ _
  case nilCheck x =>
    show ob (evF env x) _ = _
    rw [evF_eq]; simp only [doOp, evOp]
    cases ev env x with
    | none => rfl
    | some v => cases v <;> rfl
  case binOp op t x y ty =>
    show ob (evF env x) (fun p => ob (evF env y) _) = _
    rw [evF_eq, evF_eq]; simp only [doOp, evOp]; cases ev env x <;> cases ev env y <;> first | rfl | exact retF_eq _ _
  case unOp op t x =>
    show ob (evF env x) _ = _
    rw [evF_eq]; simp only [doOp, evOp]; cases ev env x <;> first | rfl | exact retF_eq _ _
  case convert s d x =>
    show ob (evF env x) _ = _
    rw [evF_eq]; simp only [doOp, evOp]; cases ev env x <;> first | rfl | exact retF_eq _ _
  case slice t x lo hi mx =>
    show ob (evF env x) (fun v => ob (oevF env lo) fun a => ob (oevF env hi) fun b => ob (oevF env mx) fun c => _) = _
    rw [evF_eq, oevF_eq, oevF_eq, oevF_eq]; simp only [doOp, evOp]
    cases ev env x <;> cases oev env lo <;> cases oev env hi <;> cases oev env mx <;> first | rfl | exact retF_eq _ _
  case fieldAddr s x f =>
    show ob (evF env x) _ = _
    rw [evF_eq]; simp only [doOp, evOp]; cases ev env x <;> first | rfl | exact retF_eq _ _
  case field s x f =>
    show ob (evF env x) _ = _
    rw [evF_eq]; simp only [doOp, evOp]; cases ev env x <;> first | rfl | exact retF_eq _ _
  case indexAddr t x i =>
    show ob (evF env x) (fun p => ob (evF env i) _) = _
    rw [evF_eq, evF_eq]; simp only [doOp, evOp]; cases ev env x <;> cases ev env i <;> first | rfl | exact retF_eq _ _
  case index t x i =>
    show ob (evF env x) (fun p => ob (evF env i) _) = _
    rw [evF_eq, evF_eq]; simp only [doOp, evOp]; cases ev env x <;> cases ev env i <;> first | rfl | exact retF_eq _ _
  case lookup t x i ok =>
    show ob (evF env x) (fun p => ob (evF env i) _) = _
    rw [evF_eq, evF_eq]; simp only [doOp, evOp]; cases ev env x <;> cases ev env i <;> first | rfl | exact retF_eq _ _
  case mapUpdate t m k x =>
    show ob (evF env m) (fun p => ob (evF env k) fun q => ob (evF env x) _) = _
    rw [evF_eq, evF_eq, evF_eq]; simp only [doOp, evOp]; cases ev env m <;> cases ev env k <;> cases ev env x <;> first | rfl | exact retF_eq _ _
  case extract t i =>
    show ob (evF env t) _ = _
    rw [evF_eq]; simp only [doOp, evOp]
    cases ev env t with
    | none => rfl
    | some v =>
      cases v with
      | tup l =>
        show retF h (nthF l i) = _
        rw [retF_eq, nthF_eq]
      | _ => rfl
  case call c =>
    obtain ⟨callee, args, ats⟩ := c
    cases callee with
    | value f =>
      show ob (evF env f) (fun v => ob (evsF env args.toList) fun l => ob (calleeOf v l) fun p => rec p.1 p.2 h) = _
      rw [evF_eq, evsF_eq]; simp only [doOp]
      cases ev env f with
      | none => rfl
      | some v =>
        cases evs env args.toList with
        | none => rfl
        | some l =>
          show ob (calleeOf v l) _ = _
          simp only []
          cases calleeOf v l <;> rfl
    | invoke r m => rfl
    | builtin b =>
      show ob (evsF env args.toList) _ = _
      rw [evsF_eq]; simp only [doOp, evOp]
      cases evs env args.toList <;> rfl
  all_goals rfl

/-! ### Operations, one behind the other -/

def wantedF (env : Tree AVal) (ops : List Oper) (o : Oper) : Option Bool :=
  @Option.rec (Nat × Bool) (fun _ => Option Bool) (some true) (fun p => ob (nthF ops p.1) fun g => ob g.dst fun d => ob (getF env d) fun v => (match v with | .bool b => some (b == p.2) | _ => some false)) o.guard

theorem wantedF_eq (env : Tree AVal) (ops : List Oper) (o : Oper) : wantedF env ops o = wantedA env ops o := by
  unfold wantedF wantedA
  cases o.guard with
  | none => rfl
  | some p =>
    obtain ⟨j, want⟩ := p
    show ob (nthF ops j) (fun g => ob g.dst fun d => ob (getF env d) fun v => (match v with | .bool b => some (b == want) | _ => some false)) =
      (match nth ops j with
      | none => none
      | some g => match g.dst with
        | none => none
        | some d => match env.get d with
          | some (.bool b) => some (b == want)
          | some _ => some false
          | none => none)
    rw [nthF_eq]
    cases nth ops j with
    | none => rfl
    | some g =>
      show ob g.dst (fun d => ob (getF env d) fun v => (match v with | .bool b => some (b == want) | _ => some false)) =
        (match g.dst with
        | none => none
        | some d => match env.get d with
          | some (.bool b) => some (b == want)
          | some _ => some false
          | none => none)
      cases g.dst with
      | none => rfl
      | some d =>
        show ob (getF env d) (fun v => (match v with | .bool b => some (b == want) | _ => some false)) =
          (match env.get d with
          | some (.bool b) => some (b == want)
          | some _ => some false
          | none => none)
        try rw [getF_eq]
        cases env.get d with
        | none => rfl
        | some v => cases v <;> rfl

def putAF (env : Tree AVal) (n : Nat) (d : Option Tmp) (v : AVal) : Option (Tree AVal) :=
  @Option.rec Tmp (fun _ => Option (Tree AVal)) (some env) (fun d => @Bool.rec (fun _ => Option (Tree AVal)) none (some (setF env d v)) (Nat.ble (Nat.succ d) n)) d

theorem putAF_eq (env : Tree AVal) (n : Nat) (d : Option Tmp) (v : AVal) : putAF env n d v = putA env n d v := by
  cases d with
  | none => rfl
  | some d =>
    show @Bool.rec (fun _ => Option (Tree AVal)) none (some (setF env d v)) (Nat.ble (Nat.succ d) n) = _
    try rw [setF_eq]
    show _ = (match Nat.ble (Nat.succ d) n with | true => some (env.set d v) | false => none)
    cases Nat.ble (Nat.succ d) n <;> rfl

abbrev KL := Tab → Rec → Nat → List Oper → Tree AVal → Heap → Option (Tree AVal × Heap)

def stepF (o : Oper) (ih : KL) : Option Bool → KL := fun q =>
  @Option.rec Bool (fun _ => KL) (fun T rec n all env h => none) (fun b => @Bool.rec (fun _ => KL)
    (fun T rec n all env h => ob (putAF env n o.dst noVal) fun env' => ih T rec n all env' h)
    (@Bool.rec (fun _ => KL)
      (fun T rec n all env h => ob (doF o.op T rec env h 0) fun p => ob (putAF env n o.dst p.1) fun env' => ih T rec n all env' p.2)
      (fun T rec n all env h => ob (doF o.op T rec env ⟨h.t, Nat.succ h.next⟩ h.next) fun p => ob (putAF env n o.dst p.1) fun env' => ih T rec n all env' p.2)
      (makes o.op)) b) q

def doOpsF (os : List Oper) : KL :=
  @List.rec Oper (fun _ => KL) (fun T rec n all env h => some (env, h)) (fun o _ ih T rec n all env h => stepF o ih (wantedF env all o) T rec n all env h) os

theorem doOpsF_eq (T : Tab) (rec : Rec) (n : Nat) (all os : List Oper) (env : Tree AVal) (h : Heap) : doOpsF os T rec n all env h = doOps T rec n all os env h := by
  induction os generalizing env h with
  | nil => rfl
  | cons o os ih =>
    show stepF o (doOpsF os) (wantedF env all o) T rec n all env h = _
    rw [wantedF_eq]
    unfold doOps
    cases wantedA env all o with
    | none => rfl
    | some b =>
      cases b with
      | false =>
        show ob (putAF env n o.dst noVal) (fun env' => doOpsF os T rec n all env' h) = _
        rw [putAF_eq]
        simp only [ih]
        unfold ob
        cases putA env n o.dst noVal <;> rfl
      | true =>
        cases hm : makes o.op with
        | false =>
          simp only [stepF, hm]
          show ob (doF o.op T rec env h 0) (fun p => ob (putAF env n o.dst p.1) fun env' => doOpsF os T rec n all env' p.2) = _
          rw [doF_eq]
          unfold ob
          cases doOp T rec env h 0 o.op with
          | none => rfl
          | some p =>
            obtain ⟨v, h'⟩ := p
            simp only [putAF_eq, ih]
            cases putA env n o.dst v <;> rfl
        | true =>
          simp only [stepF, hm]
          show ob (doF o.op T rec env ⟨h.t, Nat.succ h.next⟩ h.next) (fun p => ob (putAF env n o.dst p.1) fun env' => doOpsF os T rec n all env' p.2) = _
          rw [doF_eq]
          unfold ob
          cases doOp T rec env ⟨h.t, Nat.succ h.next⟩ h.next o.op with
          | none => rfl
          | some p =>
            obtain ⟨v, h'⟩ := p
            simp only [putAF_eq, ih]
            cases putA env n o.dst v <;> rfl

/-! ### Drawn regions -/

/-- an operation's value, memory apart -/
def valF (o : Op) (T : Tab) (env : Tree AVal) (h : Heap) : Option AVal := ob (doF o T (fun _ _ _ => none) env h 0) fun p => some p.1

theorem doOp_pure {T : Tab} {rec : Rec} {env : Tree AVal} {h : Heap} {rid : Nat} {o : Op} (hc : cls o = .pure ∨ cls o = .read) : doOp T rec env h rid o = evOp T env h rid o := by
  cases o with
  | call c =>
    obtain ⟨callee, args, ats⟩ := c
    cases callee with
    | value f => rcases hc with hc | hc <;> simp [cls] at hc
    | _ => rfl
  | _ => rfl

abbrev KW := List Nat → Tab → Rec → Nat → Nat → List Oper → Nat → DSt → Option DSt

def wSkip (o : Oper) (ih : KW) (ms : List Nat) : Tab → Rec → Nat → Nat → List Oper → Nat → DSt → Option DSt := fun T rec n base all i s =>
  ob (putAF s.env n o.dst noVal) fun env' => ih ms T rec n base all (Nat.succ i) { s with env := env' }
def wPure (o : Oper) (ih : KW) (ms : List Nat) : Tab → Rec → Nat → Nat → List Oper → Nat → DSt → Option DSt := fun T rec n base all i s =>
  ob (doF o.op T rec s.env s.h 0) fun p => ob (putAF s.env n o.dst p.1) fun env' => ih ms T rec n base all (Nat.succ i) { s with env := env' }
def wRead (o : Oper) (ih : KW) (ms : List Nat) : Tab → Rec → Nat → Nat → List Oper → Nat → DSt → Option DSt := fun T rec n base all i s =>
  ob (doF o.op T rec s.env s.h 0) fun p => ob (putAF s.env n o.dst p.1) fun env' => ih ms T rec n base all (Nat.succ i) { s with env := env', rds := ⟨i, o.op, s.env, p.1⟩ :: s.rds }
def wMake (o : Oper) (ih : KW) (ms : List Nat) : Tab → Rec → Nat → Nat → List Oper → Nat → DSt → Option DSt := fun T rec n base all i s =>
  ob (mkOp T s.env (Nat.add base i) o.op) fun p => ob (putAF s.env n o.dst p.1) fun env' => ih ms T rec n base all (Nat.succ i) { s with env := env', pend := (i, p.2) :: s.pend }
def wAct2 (o : Oper) (ih : KW) (m : Nat) (ms : List Nat) : Tab → Rec → Nat → Nat → List Oper → Nat → DSt → Option DSt := fun T rec n base all i s =>
  ob (doF o.op T rec s.env (release base m s.pend s.h) (Nat.add base i)) fun p => ob (putAF s.env n o.dst p.1) fun env' => ih ms T rec n base all (Nat.succ i) { env := env', h := p.2, pend := keep m s.pend, evs := i :: s.evs, vers := (Nat.succ i, p.2) :: s.vers, rds := s.rds }
def wAct (o : Oper) (ih : KW) (m : Nat) (ms : List Nat) : Tab → Rec → Nat → Nat → List Oper → Nat → DSt → Option DSt := fun T rec n base all i s =>
  @Bool.rec (fun _ => Option DSt) none (wAct2 o ih m ms T rec n base all i s) (@List.rec Nat (fun _ => Bool) true (fun e _ _ => m.testBit e) s.evs)

def wWant (o : Oper) (ih : KW) (m : Nat) (ms : List Nat) : Tab → Rec → Nat → Nat → List Oper → Nat → DSt → Option DSt :=
  @Cls.rec (fun _ => Tab → Rec → Nat → Nat → List Oper → Nat → DSt → Option DSt) (wPure o ih ms) (wRead o ih ms) (wMake o ih ms) (wAct o ih m ms) (cls o.op)

def wStep (o : Oper) (ih : KW) (m : Nat) (ms : List Nat) : Tab → Rec → Nat → Nat → List Oper → Nat → DSt → Option DSt := fun T rec n base all i s =>
  ob (wantedF s.env all o) fun b => @Bool.rec (fun _ => Tab → Rec → Nat → Nat → List Oper → Nat → DSt → Option DSt) (wSkip o ih ms) (wWant o ih m ms) b T rec n base all i s

def walkF (os : List Oper) : KW :=
  @List.rec Oper (fun _ => KW) (fun _ T rec n base all i s => some s) (fun o _ ih ms => @List.rec Nat (fun _ => Tab → Rec → Nat → Nat → List Oper → Nat → DSt → Option DSt) (fun T rec n base all i s => none) (fun m ms _ => wStep o ih m ms) ms) os

theorem walkF_eq (T : Tab) (rec : Rec) (n base : Nat) (all os : List Oper) (ms : List Nat) (i : Nat) (s : DSt) : walkF os ms T rec n base all i s = walkD T rec n base all os ms i s := by
  induction os generalizing ms i s with
  | nil => cases ms <;> rfl
  | cons o os ih =>
    cases ms with
    | nil => rfl
    | cons m ms =>
      show ob (wantedF s.env all o) (fun b => @Bool.rec (fun _ => Tab → Rec → Nat → Nat → List Oper → Nat → DSt → Option DSt) (wSkip o (walkF os) ms) (wWant o (walkF os) m ms) b T rec n base all i s) = _
      rw [wantedF_eq, walkD]
      cases wantedA s.env all o with
      | none => rfl
      | some b =>
        cases b with
        | false =>
          show ob (putAF s.env n o.dst noVal) (fun env' => walkF os ms T rec n base all (Nat.succ i) { s with env := env' }) = _
          rw [putAF_eq]; simp only [ih]
          cases putA s.env n o.dst noVal <;> rfl
        | true =>
          show wWant o (walkF os) m ms T rec n base all i s = _
          unfold wWant
          cases hc : cls o.op with
          | pure =>
            show ob (doF o.op T rec s.env s.h 0) (fun p => ob (putAF s.env n o.dst p.1) fun env' => walkF os ms T rec n base all (Nat.succ i) { s with env := env' }) = _
            rw [doF_eq, doOp_pure (.inl hc)]
            simp only []
            cases evOp T s.env s.h 0 o.op with
            | none => rfl
            | some p =>
              show ob (putAF s.env n o.dst p.1) _ = _
              simp only [putAF_eq, ih]
              cases putA s.env n o.dst p.1 <;> rfl
          | read =>
            show ob (doF o.op T rec s.env s.h 0) (fun p => ob (putAF s.env n o.dst p.1) fun env' => walkF os ms T rec n base all (Nat.succ i) { s with env := env', rds := ⟨i, o.op, s.env, p.1⟩ :: s.rds }) = _
            rw [doF_eq, doOp_pure (.inr hc)]
            simp only []
            cases evOp T s.env s.h 0 o.op with
            | none => rfl
            | some p =>
              show ob (putAF s.env n o.dst p.1) _ = _
              simp only [putAF_eq, ih]
              cases putA s.env n o.dst p.1 <;> rfl
          | make =>
            show ob (mkOp T s.env (Nat.add base i) o.op) (fun p => ob (putAF s.env n o.dst p.1) fun env' => walkF os ms T rec n base all (Nat.succ i) { s with env := env', pend := (i, p.2) :: s.pend }) = _
            simp only []
            cases mkOp T s.env (Nat.add base i) o.op with
            | none => rfl
            | some p =>
              show ob (putAF s.env n o.dst p.1) _ = _
              simp only [putAF_eq, ih]
              cases putA s.env n o.dst p.1 <;> rfl
          | act =>
            have fin : wAct2 o (walkF os) m ms T rec n base all i s = (match doOp T rec s.env (release base m s.pend s.h) (Nat.add base i) o.op with
                | some (v, h') => match putA s.env n o.dst v with
                  | some env' => walkD T rec n base all os ms (Nat.succ i) { env := env', h := h', pend := keep m s.pend, evs := i :: s.evs, vers := (Nat.succ i, h') :: s.vers, rds := s.rds }
                  | none => none
                | none => none) := by
              show ob (doF o.op T rec s.env (release base m s.pend s.h) (Nat.add base i)) _ = _
              rw [doF_eq]
              cases doOp T rec s.env (release base m s.pend s.h) (Nat.add base i) o.op with
              | none => rfl
              | some p =>
                show ob (putAF s.env n o.dst p.1) _ = _
                simp only [putAF_eq, ih]
                cases putA s.env n o.dst p.1 <;> rfl
            obtain ⟨env, h, pend, evs, vers, rds⟩ := s
            show @Bool.rec (fun _ => Option DSt) none (wAct2 o (walkF os) m ms T rec n base all i ⟨env, h, pend, evs, vers, rds⟩) (@List.rec Nat (fun _ => Bool) true (fun e _ _ => m.testBit e) evs) = _
            rw [fin]
            cases evs with
            | nil => rfl
            | cons e es =>
              show @Bool.rec (fun _ => Option DSt) none _ (m.testBit e) = _
              simp only []
              cases m.testBit e <;> rfl

/-- the checks of a drawn region, by a table of who writes a slot -/
def writersF (os : List Oper) : Nat → Tree Nat → Tree Nat :=
  @List.rec Oper (fun _ => Nat → Tree Nat → Tree Nat) (fun _ t => t) (fun o _ ih i t => ih (Nat.succ i) (@Option.rec Tmp (fun _ => Tree Nat) t (fun d => t.set d i) o.dst)) os

def okRelF (ms : List Nat) (i mi l : Nat) : Bool :=
  @Bool.rec (fun _ => Bool) (@Bool.rec (fun _ => Bool) (((nth ms l).getD 0).testBit i) (mi.testBit l) (Nat.ble (Nat.succ l) i)) true (Nat.beq l i)

def okTsF (W : Tree Nat) (ms : List Nat) (i mi : Nat) (ts : List Tmp) : Bool :=
  @List.rec Tmp (fun _ => Bool) true (fun t _ ih => @Bool.rec (fun _ => Bool) false ih (@Option.rec Nat (fun _ => Bool) true (fun l => okRelF ms i mi l) (W.get t))) ts

def okOwnF (W : Tree Nat) (i : Nat) (d : Option Tmp) : Bool :=
  @Option.rec Tmp (fun _ => Bool) true (fun d => @Option.rec Nat (fun _ => Bool) false (fun l => Nat.beq l i) (W.get d)) d

def okGoF (W : Tree Nat) (ms : List Nat) (all os : List Oper) : Nat → Bool :=
  @List.rec Oper (fun _ => Nat → Bool) (fun _ => true) (fun o _ ih i => @Bool.rec (fun _ => Bool) false (@Bool.rec (fun _ => Bool) false (@Bool.rec (fun _ => Bool) false (ih (Nat.succ i)) (okEdges i o)) (okTsF W ms i ((nth ms i).getD 0) (tmpsOf all o))) (okOwnF W i o.dst)) os

def okF (ops : List Oper) (ms : List Nat) : Bool := okGoF (writersF ops 0 .lf) ms ops ops 0

theorem boolRec_true {a b : Bool} (h : @Bool.rec (fun _ => Bool) false b a = true) : a = true ∧ b = true := by
  cases a
  · cases h
  · exact ⟨rfl, h⟩

theorem okGoF_at {W : Tree Nat} {ms : List Nat} {all : List Oper} : ∀ {os : List Oper} {i : Nat}, okGoF W ms all os i = true → ∀ (j : Nat) (o : Oper), os[j]? = some o →
    okEdges (i + j) o = true ∧ okTsF W ms (i + j) ((nth ms (i + j)).getD 0) (tmpsOf all o) = true ∧ okOwnF W (i + j) o.dst = true
  | [], i, h, j, o, ho => by simp at ho
  | x :: os, i, h, j, o, ho => by
    have h' : @Bool.rec (fun _ => Bool) false (@Bool.rec (fun _ => Bool) false (@Bool.rec (fun _ => Bool) false (okGoF W ms all os (Nat.succ i)) (okEdges i x)) (okTsF W ms i ((nth ms i).getD 0) (tmpsOf all x))) (okOwnF W i x.dst) = true := h
    obtain ⟨h1, h2⟩ := boolRec_true h'
    obtain ⟨h2, h3⟩ := boolRec_true h2
    obtain ⟨h3, h4⟩ := boolRec_true h3
    cases j with
    | zero => simp at ho; subst ho; exact ⟨h3, h2, h1⟩
    | succ j =>
      have := okGoF_at h4 j o (by simpa using ho)
      rw [show i + (j + 1) = Nat.succ i + j by omega]
      exact this

theorem okTsF_at {W : Tree Nat} {ms : List Nat} {i mi : Nat} : ∀ {ts : List Tmp}, okTsF W ms i mi ts = true → ∀ t ∈ ts, ∀ l, W.get t = some l → okRelF ms i mi l = true
  | [], h, t, ht => by cases ht
  | x :: ts, h, t, ht => by
    have h' : @Bool.rec (fun _ => Bool) false (okTsF W ms i mi ts) (@Option.rec Nat (fun _ => Bool) true (fun l => okRelF ms i mi l) (W.get x)) = true := h
    obtain ⟨h1, h2⟩ := boolRec_true h'
    intro l hl
    rcases List.mem_cons.1 ht with e | e
    · subst e; rw [hl] at h1; exact h1
    · exact okTsF_at h2 t e l hl

theorem okDsts_of {ms : List Nat} {i mi : Nat} {ts : List Tmp} {own : Option Tmp} : ∀ (os : List Oper) (l : Nat), (∀ (j : Nat) (o : Oper) (d : Tmp), os[j]? = some o → o.dst = some d → okDst ms i mi ts (l + j) d own = true) → okDsts ms i mi ts own os l = true
  | [], l, h => rfl
  | o :: os, l, h => by
    have ih := okDsts_of os (Nat.succ l) (ms := ms) (i := i) (mi := mi) (ts := ts) (own := own) (fun j q d hq hd => by
      have := h (j + 1) q d (by simpa using hq) hd
      rw [show l + (j + 1) = Nat.succ l + j by omega] at this
      exact this)
    simp only [okDsts, ih, Bool.and_true]
    cases hd : o.dst with
    | none => rfl
    | some d => exact h 0 o d rfl hd

theorem okOpers_of {all : List Oper} {ms : List Nat} : ∀ (os : List Oper) (i : Nat), (∀ (j : Nat) (o : Oper), os[j]? = some o → okEdges (i + j) o = true ∧ okDsts ms (i + j) ((nth ms (i + j)).getD 0) (tmpsOf all o) o.dst all 0 = true) → okOpers all ms os i = true
  | [], i, h => rfl
  | o :: os, i, h => by
    have h0 := h 0 o rfl
    rw [Nat.add_zero] at h0
    have ih := okOpers_of os (Nat.succ i) (all := all) (ms := ms) (fun j q hq => by
      have := h (j + 1) q (by simpa using hq)
      rw [show i + (j + 1) = Nat.succ i + j by omega] at this
      exact this)
    simp only [okOpers, h0.1, h0.2, ih, Bool.and_true]

theorem okF_ok {ops : List Oper} {ms : List Nat} (h : okF ops ms = true) : okOpers ops ms ops 0 = true := by
  refine okOpers_of ops 0 fun i o ho => ?_
  obtain ⟨h1, h2, h3⟩ := okGoF_at h i o ho
  rw [Nat.zero_add] at h1 h2 h3 ⊢
  refine ⟨h1, okDsts_of ops 0 fun l q d hq hd => ?_⟩
  rw [Nat.zero_add]
  have hwl : (writersF ops 0 .lf).get d = some l := by
    obtain ⟨_, _, hx⟩ := okGoF_at h l q hq
    rw [Nat.zero_add, hd] at hx
    have hx' : @Option.rec Nat (fun _ => Bool) false (fun l' => Nat.beq l' l) ((writersF ops 0 .lf).get d) = true := hx
    cases hg : (writersF ops 0 .lf).get d with
    | none => rw [hg] at hx'; cases hx'
    | some l' => rw [hg] at hx'; rw [Nat.eq_of_beq_eq_true hx']
  unfold okDst
  cases hb : Nat.beq l i with
  | true => rfl
  | false =>
    have hne : l ≠ i := fun e => by subst e; simp [Nat.beq_refl] at hb
    have e1 : (match o.dst with | some x => !Nat.beq x d | none => true) = true := by
      cases hod : o.dst with
      | none => rfl
      | some x =>
        cases hxd : Nat.beq x d with
        | false => simp [hxd]
        | true =>
          exfalso
          have := Nat.eq_of_beq_eq_true hxd
          subst this
          rw [hod] at h3
          have h3' : @Option.rec Nat (fun _ => Bool) false (fun l' => Nat.beq l' i) ((writersF ops 0 .lf).get x) = true := h3
          rw [hwl] at h3'
          exact hne (Nat.eq_of_beq_eq_true h3')
    simp only []
    rw [Bool.and_eq_true]
    refine ⟨e1, ?_⟩
    cases hc : (tmpsOf ops o).contains d with
    | false => rfl
    | true =>
      have hmem : d ∈ tmpsOf ops o := by simpa using hc
      have := okTsF_at h2 d hmem l hwl
      unfold okRelF at this
      rw [hb] at this
      show (match Nat.ble (Nat.succ l) i with | true => ((nth ms i).getD 0).testBit l | false => ((nth ms l).getD 0).testBit i) = true
      revert this
      cases Nat.ble (Nat.succ l) i <;> exact fun h => h

def drawEnd (h : Heap) (ms : List Nat) (T : Tab) (s : DSt) : Option (Tree AVal × Heap) :=
  @Bool.rec (fun _ => Option (Tree AVal × Heap)) none (some (s.env, releaseAll h.next s.pend s.h)) (readsOk T ms s.evs s.vers s.rds)

def drawF (ops : List Oper) : Tab → Rec → Nat → Tree AVal → Heap → Option (Tree AVal × Heap) :=
  @Bool.rec (fun _ => Tab → Rec → Nat → Tree AVal → Heap → Option (Tree AVal × Heap)) (fun _ _ _ _ _ => none)
    (fun T rec n env h => ob (walkF ops (masks ops []) T rec n h.next ops 0 ⟨env, ⟨h.t, Nat.add h.next ops.length⟩, [], [], [(0, ⟨h.t, Nat.add h.next ops.length⟩)], []⟩) (drawEnd h (masks ops []) T))
    (@Bool.rec (fun _ => Bool) (okOpers ops (masks ops []) ops 0) true (okF ops (masks ops [])))

theorem okF_or (ops : List Oper) (ms : List Nat) : @Bool.rec (fun _ => Bool) (okOpers ops ms ops 0) true (okF ops ms) = okOpers ops ms ops 0 := by
  cases h : okF ops ms with
  | false => rfl
  | true => exact (okF_ok h).symm

theorem drawF_eq (T : Tab) (rec : Rec) (n : Nat) (ops : List Oper) (env : Tree AVal) (h : Heap) : drawF ops T rec n env h = doDraw T rec n ops env h := by
  unfold drawF doDraw
  rw [okF_or]
  cases okOpers ops (masks ops []) ops 0 with
  | false => rfl
  | true =>
    simp only [walkF_eq]
    cases walkD T rec n h.next ops ops (masks ops []) 0 ⟨env, ⟨h.t, Nat.add h.next ops.length⟩, [], [], [(0, ⟨h.t, Nat.add h.next ops.length⟩)], []⟩ with
    | none => rfl
    | some s =>
      show drawEnd h (masks ops []) T s = _
      unfold drawEnd
      simp only []
      cases readsOk T (masks ops []) s.evs s.vers s.rds <;> rfl

/-! ### Code -/

abbrev KC := Tab → Rec → FuncId → Nat → Option Nat → Nat → St → Option (Out × St)

def cRegion (ops : Array Oper) (draw : Bool) : KC := @Bool.rec (fun _ => KC)
  (fun T rec fnid n ar lf s => ob (doOpsF ops.toList T rec n ops.toList s.env s.h) fun p => some (.normal, ⟨p.1, s.mks, p.2⟩))
  (fun T rec fnid n ar lf s => ob (drawF ops.toList T rec n s.env s.h) fun p => some (.normal, ⟨p.1, s.mks, p.2⟩)) draw

def outF (o : Out) (s : St) (e : Option (Out × St)) : Option (Out × St) :=
  @Out.rec (fun _ => Option (Out × St)) e (fun id => some (.exit id, s)) (some (.ret, s)) o

def cSeq (x y : KC) : KC := fun T rec fnid n ar lf s => ob (x T rec fnid n ar lf s) fun p => outF p.1 p.2 (y T rec fnid n ar lf p.2)

def boolF {β : Type} (x y : β) (v : AVal) (z : β) : β := @AVal.rec (fun _ => β) (fun _ => β) (fun b => @Bool.rec (fun _ => β) y x b) (fun _ _ => z) (fun _ => z) z (fun _ _ => z) z (fun _ _ _ _ => z) z z (fun _ => z) (fun _ _ _ _ _ => z) (fun _ => z) z (fun _ _ _ => z) z (fun _ _ => z) (fun _ _ => z) z (fun _ _ _ _ => z) v

def cCond (c : Operand) (x y : KC) : KC := fun T rec fnid n ar lf s => ob (evF s.env c) fun v => boolF x y v (fun _ _ _ _ _ _ _ => none) T rec fnid n ar lf s

def blockF (id : Nat) (p : Out × St) : Option (Out × St) :=
  @Out.rec (fun _ => Option (Out × St)) (some (.normal, p.2)) (fun i => @Bool.rec (fun _ => Option (Out × St)) (some (.exit i, p.2)) (some (.normal, p.2)) (Nat.beq i id)) (some (.ret, p.2)) p.1

def cBlock (id : Nat) (x : KC) : KC := fun T rec fnid n ar lf s => ob (x T rec fnid n ar lf s) (blockF id)

def iterF (g : Heap → Heap) (f : St → Option (Out × St)) (m : Nat) : St → Option (Out × St) :=
  @Nat.rec (fun _ => St → Option (Out × St)) (fun _ => none) (fun _ ih s => ob (f s) fun p => outF p.1 p.2 (ih ⟨p.2.env, p.2.mks, g p.2.h⟩)) m

def cLoop (x : KC) : KC := fun T rec fnid n ar lf s => iterF (T.gc fnid) (x T rec fnid n ar lf) lf s

def evCF (c : Code) : KC :=
  @Code.rec (fun _ => KC) (fun T rec fnid n ar lf s => some (.normal, s)) (fun _ ops draw => cRegion ops draw) (fun _ _ x y => cSeq x y) (fun c _ _ x y => cCond c x y) (fun id _ x => cBlock id x) (fun _ x => cLoop x)
    (fun f ps a b _ _ T rec fnid n ar lf s => evC T rec fnid n ar lf (.rangeFunc f ps a b) s)
    (fun id T rec fnid n ar lf s => some (.exit id, s)) (fun _ x => x) (fun _ T rec fnid n ar lf s => none) (fun _ T rec fnid n ar lf s => none) (fun T rec fnid n ar lf s => some (.ret, s)) (fun _ T rec fnid n ar lf s => none) c

theorem iterF_eq (g : Heap → Heap) (f : St → Option (Out × St)) (m : Nat) (s : St) : iterF g f m s = iterL g f m s := by
  induction m generalizing s with
  | zero => rfl
  | succ m ih =>
    show ob (f s) (fun p => outF p.1 p.2 (iterF g f m ⟨p.2.env, p.2.mks, g p.2.h⟩)) = _
    unfold ob iterL
    cases f s with
    | none => rfl
    | some p =>
      obtain ⟨o, s'⟩ := p
      cases o
      · exact ih _
      · rfl
      · rfl

theorem evCF_eq (T : Tab) (rec : Rec) (fnid : FuncId) (n : Nat) (ar : Option Nat) (lf : Nat) (c : Code) (s : St) : evCF c T rec fnid n ar lf s = evC T rec fnid n ar lf c s := by
  induction c generalizing s with
  | region id ops draw =>
    cases draw with
    | false =>
      show ob (doOpsF ops.toList T rec n ops.toList s.env s.h) _ = _
      rw [doOpsF_eq]; unfold ob evC
      cases doOps T rec n ops.toList ops.toList s.env s.h <;> rfl
    | true =>
      show ob (drawF ops.toList T rec n s.env s.h) _ = _
      rw [drawF_eq]
      unfold ob evC
      cases doDraw T rec n ops.toList s.env s.h <;> rfl
  | seq x y ihx ihy =>
    show ob (evCF x T rec fnid n ar lf s) (fun p => outF p.1 p.2 (evCF y T rec fnid n ar lf p.2)) = _
    rw [ihx]; simp only [ihy]; unfold ob
    rw [evC]
    cases evC T rec fnid n ar lf x s with
    | none => rfl
    | some p => obtain ⟨o, s'⟩ := p; cases o <;> rfl
  | cond c x y ihx ihy =>
    show ob (evF s.env c) (fun v => boolF (evCF x) (evCF y) v (fun _ _ _ _ _ _ _ => none) T rec fnid n ar lf s) = _
    rw [evF_eq]; unfold ob
    rw [evC]
    cases ev s.env c with
    | none => rfl
    | some v =>
      cases v with
      | bool b => cases b
                  · exact ihy s
                  · exact ihx s
      | _ => rfl
  | block id x ih =>
    show ob (evCF x T rec fnid n ar lf s) (blockF id) = _
    rw [ih]; unfold ob
    rw [evC]
    cases evC T rec fnid n ar lf x s with
    | none => rfl
    | some p =>
      obtain ⟨o, s'⟩ := p
      cases o with
      | exit i =>
        show @Bool.rec (fun _ => Option (Out × St)) (some (.exit i, s')) (some (.normal, s')) (Nat.beq i id) = _
        simp only []
        cases Nat.beq i id <;> rfl
      | _ => rfl
  | loop x ih =>
    show iterF (T.gc fnid) (evCF x T rec fnid n ar lf) lf s = _
    rw [iterF_eq, evC, funext ih]
  | scope x ih => exact ih s
  | _ => first | rfl | (simp only [evC]; rfl)

/-! ### Calls -/

def bindF (l : List AVal) : Nat → Tree AVal → Tree AVal :=
  @List.rec AVal (fun _ => Nat → Tree AVal → Tree AVal) (fun _ t => t) (fun v _ ih i t => ih (Nat.succ i) (setF t i v)) l
theorem bindF_eq (l : List AVal) (i : Nat) (t : Tree AVal) : bindF l i t = bindArgs l i t := by
  induction l generalizing i t with
  | nil => rfl
  | cons v l ih =>
    show bindF l (Nat.succ i) (setF t i v) = _
    rw [ih, setF_eq]; rfl

def bodyEnd (T : Tab) (fn : Func) (p : Out × St) : Option (AVal × Heap) :=
  match p with
  | (.exit _, _) => none
  | (_, s) => match takeD s.mks s.h with
    | some h' => match resOf T h' s.env fn.results.toList with
      | some l => some (pack l, h')
      | none => none
    | none => none

def bodyF (T : Tab) (rec : Rec) (lf : Nat) (f : FuncId) (args : List AVal) (h : Heap) : Option (AVal × Heap) :=
  ob (getF T.fn f) fun fn => ob fn.body fun c => @Bool.rec (fun _ => Option (AVal × Heap)) none (ob (evCF c T rec f fn.ntmps none lf ⟨bindF args 0 .lf, [], h⟩) (bodyEnd T fn)) (Nat.ble args.length fn.ntmps)

theorem bodyF_eq (T : Tab) (rec : Rec) (lf : Nat) (f : FuncId) (args : List AVal) (h : Heap) : bodyF T rec lf f args h = callBody T rec lf f args h := by
  unfold bodyF callBody
  try rw [getF_eq]
  unfold ob
  cases T.fn.get f with
  | none => rfl
  | some fn =>
    simp only []
    cases fn.body with
    | none => rfl
    | some c =>
      simp only []
      cases Nat.ble args.length fn.ntmps with
      | false => rfl
      | true =>
        simp only [evCF_eq, bindF_eq]
        cases evC T rec f fn.ntmps none lf c ⟨bindArgs args 0 .lf, [], h⟩ with
        | none => rfl
        | some p =>
          obtain ⟨o, s⟩ := p
          cases o <;> rfl

def whoF (T : Tab) (kn : Known) (lf : Nat) (ih : Rec) (who : Who) (args : List AVal) (h : Heap) : Option (AVal × Heap) :=
  @Who.rec (fun _ => Option (AVal × Heap)) (fun f => @Option.rec (AVal × Heap) (fun _ => Option (AVal × Heap)) (bodyF T ih lf f args h) (fun r => some r) (kn f args h)) (fun id => yldBody T ih lf id args h) who

def recF (T : Tab) (kn : Known) (lf : Nat) (d : Nat) : Rec :=
  @Nat.rec (fun _ => Rec) (fun _ _ _ => none) (fun _ ih => whoF T kn lf ih) d

theorem recF_eq (T : Tab) (kn : Known) (lf d : Nat) : recF T kn lf d = recN T kn lf d := by
  induction d with
  | zero => funext a b c; rfl
  | succ d ih =>
    funext who args h
    show whoF T kn lf (recF T kn lf d) who args h = _
    rw [ih]
    unfold whoF recN
    cases who with
    | fn f =>
      show @Option.rec (AVal × Heap) (fun _ => Option (AVal × Heap)) (bodyF T (recN T kn lf d) lf f args h) (fun r => some r) (kn f args h) = _
      simp only []
      cases kn f args h with
      | none => exact bodyF_eq _ _ _ _ _ _
      | some r => rfl
    | yld id => rfl

end
end Cv

/- A program's tables; what is known beforehand of a function that makes numbers of nothing. -/
set_option linter.unusedVariables false
set_option linter.unusedSimpArgs false
namespace Cv
open Go

/-- no function bears that name -/
def nmOk (P : Program) : Bool := P.funcs.toList.all fun g => !(g.name == "runtime.NumGoroutine")

/-- the struct types that may be compared -/
def sokOk (P : Program) (t : TypeId) : Bool := !P.stoodInHeld t && !P.eqGuardType P.depth t && (P.fieldsOf t).toList.all fun f => f.name != "_"

/-- keeps but some objects -/
noncomputable def keepT (t : Tree AObj) : List Nat → Tree AObj → Tree AObj
  | [], u => u
  | i :: l, u => match t.get i with
    | some o => keepT t l (u.set i o)
    | none => keepT t l u

theorem keepT_get (t : Tree AObj) : ∀ (l : List Nat) (u : Tree AObj), (∀ j x, u.get j = some x → t.get j = some x) → ∀ j x, (keepT t l u).get j = some x → t.get j = some x := by
  intro l
  induction l with
  | nil => intro u hu; exact hu
  | cons i l ih =>
    intro u hu j x h
    unfold keepT at h
    split at h
    · rename_i o ho
      refine ih _ (fun j x hj => ?_) j x h
      rcases Tree.get_set hj with ⟨rfl, rfl⟩ | ⟨_, hj⟩
      · exact ho
      · exact hu _ _ hj
    · exact ih _ hu j x h

/-- what is kept where so many objects were made -/
def keepAt (n : Nat) : List (Nat × List Nat) → Option (List Nat)
  | [] => none
  | p :: l => match Nat.beq p.1 n with
    | true => some p.2
    | false => keepAt n l

noncomputable def gcAt (l : List (Nat × List Nat)) (h : Heap) : Heap :=
  match keepAt h.next l with
  | some ids => ⟨keepT h.t ids .lf, h.next⟩
  | none => h

/-- the loops of one function drop what is not named -/
noncomputable def gcOf (f0 : FuncId) (l : List (Nat × List Nat)) : FuncId → Heap → Heap := fun f h =>
  @Bool.rec (fun _ => Heap) h (gcAt l h) (Nat.beq f f0)

theorem gcOf_ok (f0 : FuncId) (l : List (Nat × List Nat)) (f : FuncId) (h : Heap) : (∀ id o, (gcOf f0 l f h).get id = some o → h.get id = some o) ∧ (gcOf f0 l f h).next = h.next := by
  unfold gcOf
  cases Nat.beq f f0 with
  | false => exact ⟨fun _ _ h => h, rfl⟩
  | true =>
    show (∀ id o, (gcAt l h).get id = some o → h.get id = some o) ∧ (gcAt l h).next = h.next
    unfold gcAt
    split
    · exact ⟨fun id o ho => keepT_get _ _ _ (fun j x hj => by cases hj) _ _ ho, rfl⟩
    · exact ⟨fun _ _ h => h, rfl⟩

theorem gc0_ok (f : FuncId) (h : Heap) : (∀ id o, (gc0 f h).get id = some o → h.get id = some o) ∧ (gc0 f h).next = h.next := ⟨fun _ _ h => h, rfl⟩

theorem tabOk {P : Program} {sok : TypeId → Bool} {gc : FuncId → Heap → Heap} {L : List TypeId} (hg : ∀ f h, (∀ id o, (gc f h).get id = some o → h.get id = some o) ∧ (gc f h).next = h.next) (hn : nmOk P = true) (hs : ∀ t, sok t = true → t ∈ L) (hL : L.all (sokOk P) = true) (hm : P.follows .mixedOrders = true) : TabOk (Tab.of P sok gc) P := by
  refine ⟨?_, ?_, ?_, ?_, hm, hg⟩
  · intro t i h
    have h1 := Tree.get_ofList _ _ _ _ h
    have h2 : P.types[t]? = some i := by simpa using h1
    have hlt : t < P.types.size := (Array.getElem?_eq_some_iff.1 h2).1
    simp only [Tables.info?]
    rw [if_pos hlt]
    exact h2
  · intro f g h
    have h1 := Tree.get_ofList _ _ _ _ h
    simpa using h1
  · intro f g h
    have h1 : g ∈ P.funcs.toList := by
      have := Array.mem_of_getElem? h
      simpa using this
    have := List.all_eq_true.1 hn g h1
    simpa using this
  · intro t ht
    have := List.all_eq_true.1 hL t (hs t ht)
    simp only [sokOk, Bool.and_eq_true, Bool.not_eq_true'] at this
    refine ⟨this.1.1, this.1.2, fun f hf => ?_⟩
    have := List.all_eq_true.1 this.2 f hf
    simpa using this

/-- an aggregate of numbers -/
def allInts : AVal → Bool
  | .agg l => l.all fun x => match x with | .int _ _ => true | _ => false
  | _ => false

theorem V.ints {ρ ρ' : Ren} {w w' : World} {v : AVal} {c : Value} (h : V ρ w v c) (hp : allInts v = true) : V ρ' w' v c := by
  cases h with
  | agg xs cs hl hxs =>
    refine .agg xs cs hl fun i x c hx hc => ?_
    have h1 := hxs i x c hx hc
    simp only [allInts, List.all_eq_true] at hp
    have h2 := hp x (List.mem_of_getElem? hx)
    cases h1 <;> simp at h2
    exact .int _ _
  | _ => simp [allInts] at hp

theorem empty_rel (w : World) : Rel (fun _ => none) ⟨.lf, 0⟩ w := by
  refine ⟨fun id o h => ?_, fun i j oi oj b h => ?_, fun _ _ => rfl, fun _ _ h => by cases h⟩
  · simp [Heap.get, Tree.get] at h
  · simp [Heap.get, Tree.get] at h

/-- nothing of what is owned has turned -/
theorem Rel.apart {ρ : Ren} {h : Heap} {w w' : World} (r : Rel ρ h w) (hb : ∀ b, b < w.heap.size → w'.heap[b]? = w.heap[b]?) (hs : ∀ b e n, w.shape? b = some (e, n) → w'.shape? b = some (e, n)) (hz : w.heap.size ≤ w'.heap.size) : Rel ρ h w' := by
  refine ⟨fun id o ho => ?_, r.inj, r.fresh, fun id b hb' => Nat.lt_of_lt_of_le (r.bound _ _ hb') hz⟩
  obtain ⟨b, c, h1, h2, h3⟩ := r.obj id o ho
  exact ⟨b, c, h1, by rw [hb b (r.bound _ _ h1)]; exact h2, h3.mono ⟨fun _ _ h => h, hs⟩⟩

/-- one function without arguments, its result at hand -/
noncomputable def knOf (f0 : FuncId) (v : AVal) : Known := fun f args h =>
  @Bool.rec (fun _ => Option (AVal × Heap)) none (@List.rec AVal (fun _ => Option (AVal × Heap)) (some (v, h)) (fun _ _ _ => none) args) (Nat.beq f f0)

theorem knOf_ok {T : Tab} {P : Program} (hT : TabOk T P) {lf d : Nat} {f0 : FuncId} {v : AVal} {h0 : Heap} (hrun : recN T kn0 lf d (.fn f0) [] ⟨.lf, 0⟩ = some (v, h0)) (hv : allInts v = true) : KnownOk P (knOf f0 v) := by
  intro f args h v' h' e ρ w cargs r hl
  unfold knOf at e
  cases hb : Nat.beq f f0 with
  | false => rw [hb] at e; cases e
  | true =>
    rw [hb] at e
    have hf := Nat.eq_of_beq_eq_true hb
    subst hf
    cases args with
    | cons a l => cases e
    | nil =>
      simp only [Option.some.injEq, Prod.mk.injEq] at e
      obtain ⟨rfl, rfl⟩ := e
      have hc : cargs = [] := by have := hl.1; cases cargs <;> simp at this ⊢
      subst hc
      obtain ⟨h1, h2⟩ := recN_ok hT (kn0_ok P) d _ _ _ _ _ hrun (fun _ => none) w [] (empty_rel w) ⟨rfl, by simp⟩
      refine ⟨h1, fun c cs => ?_⟩
      obtain ⟨ρ', w', cv, s1, s2, s3, s4⟩ := h2 c cs
      have hno : ∀ b, ¬ Owns (fun _ => none) ⟨.lf, 0⟩ b := fun b ⟨id, o, ho, _⟩ => by simp [Heap.get, Tree.get] at ho
      have hblk : ∀ b, b < w.heap.size → w'.heap[b]? = w.heap[b]? := fun b hb => s4.blk b hb (hno b)
      exact ⟨ρ, w', cv, s1, r.apart hblk s4.shp s4.size, s3.ints hv, ⟨fun _ _ h => h, fun _ _ h => .inl h, fun _ h => .inr h, fun b hb _ => hblk b hb, s4.shp, s4.size, s4.tape, s4.os, s4.output, Nat.le_refl _⟩⟩

/-- does a run end in true? -/
def okB : Option (AVal × Heap) → Bool
  | some (.bool true, _) => true
  | _ => false

/-- a function without arguments that comes to true and leaves all that was there -/
theorem calls_true {T : Tab} {P : Program} (hT : TabOk T P) {kn : Known} (hk : KnownOk P kn) {lf d : Nat} {f : FuncId} (hkf : kn f [] ⟨.lf, 0⟩ = none) (hrun : okB (recF T kn lf (d + 1) (.fn f) [] ⟨.lf, 0⟩) = true) (w : World) :
    Calls P f #[] w fun e w' => e = .returned (.bool true) ∧ RowKit.Below w.heap.size w w' := by
  rw [recF_eq] at hrun
  simp only [recN, hkf] at hrun
  cases hb : callBody T (recN T kn lf d) lf f [] ⟨.lf, 0⟩ with
  | none => rw [hb] at hrun; simp [okB] at hrun
  | some p =>
    obtain ⟨v, h'⟩ := p
    rw [hb] at hrun
    have hv : v = .bool true := by
      unfold okB at hrun
      split at hrun
      · rename_i h; cases h; rfl
      · cases hrun
    subst hv
    refine Calls.mono (calls_of_run hT (recN_ok hT hk d) hb (empty_rel w) (cargs := []) ⟨rfl, by simp⟩) ?_
    intro e w' hR
    cases e with
    | returned cv =>
      obtain ⟨ρ', h1, h2, h3⟩ := hR
      cases h2
      have hno : ∀ b, ¬ Owns (fun _ => none) ⟨.lf, 0⟩ b := fun b ⟨id, o, ho, _⟩ => by simp [Heap.get, Tree.get] at ho
      exact ⟨rfl, h3.os, h3.tape, h3.output, h3.size, fun b hb => h3.blk b hb (hno b)⟩
    | _ => exact hR.elim

end Cv

/- Runs in parts: up to a loop in a function's code, rounds of it, and what follows. -/
set_option linter.unusedVariables false
set_option linter.unusedSimpArgs false
namespace Cv
open Go
noncomputable section

/-- the way to a piece of code: left, right of a sequence; the true, the false arm; into a block, a loop, a scope -/
inductive Dir where | l | r | t | f | b

def codeAt : List Dir → Code → Code
  | [], c => c
  | .l :: p, .seq x y => codeAt p x
  | .r :: p, .seq x y => codeAt p y
  | .t :: p, .cond _ x y => codeAt p x
  | .f :: p, .cond _ x y => codeAt p y
  | .b :: p, .block _ x => codeAt p x
  | .b :: p, .scope x => codeAt p x
  | _, _ => .skip

/-- only where it goes on -/
def goOn (f : St → Option St) (p : Out × St) : Option St := @Out.rec (fun _ => Option St) (f p.2) (fun _ => none) none p.1

def isB (b : Bool) (f : Option St) (v : AVal) : Option St :=
  match v with
  | .bool c => match c == b with
    | true => f
    | false => none
  | _ => none

/-- a run up to a piece of code -/
def upto (T : Tab) (rec : Rec) (fnid : FuncId) (n : Nat) (ar : Option Nat) (lf : Nat) : List Dir → Code → St → Option St
  | [], _, s => some s
  | .l :: p, .seq x _, s => upto T rec fnid n ar lf p x s
  | .r :: p, .seq x y, s => ob (evCF x T rec fnid n ar lf s) (goOn (upto T rec fnid n ar lf p y))
  | .t :: p, .cond c x _, s => ob (evF s.env c) (isB true (upto T rec fnid n ar lf p x s))
  | .f :: p, .cond c _ y, s => ob (evF s.env c) (isB false (upto T rec fnid n ar lf p y s))
  | .b :: p, .block _ x, s => upto T rec fnid n ar lf p x s
  | .b :: p, .scope x, s => upto T rec fnid n ar lf p x s
  | _, _, _ => none

/-- what follows a piece of code -/
def after (T : Tab) (rec : Rec) (fnid : FuncId) (n : Nat) (ar : Option Nat) (lf : Nat) : List Dir → Code → Out × St → Option (Out × St)
  | [], _, o => some o
  | .l :: p, .seq x y, o => ob (after T rec fnid n ar lf p x o) fun q => outF q.1 q.2 (evCF y T rec fnid n ar lf q.2)
  | .r :: p, .seq _ y, o => after T rec fnid n ar lf p y o
  | .t :: p, .cond _ x _, o => after T rec fnid n ar lf p x o
  | .f :: p, .cond _ _ y, o => after T rec fnid n ar lf p y o
  | .b :: p, .block id x, o => ob (after T rec fnid n ar lf p x o) (blockF id)
  | .b :: p, .scope x, o => after T rec fnid n ar lf p x o
  | _, _, _ => none

theorem upto_ok {T : Tab} {rec : Rec} {fnid : FuncId} {n : Nat} {ar : Option Nat} {lf : Nat} : ∀ (p : List Dir) (c : Code) (s s1 : St), upto T rec fnid n ar lf p c s = some s1 →
    evCF c T rec fnid n ar lf s = ob (evCF (codeAt p c) T rec fnid n ar lf s1) (after T rec fnid n ar lf p c) := by
  intro p
  induction p with
  | nil =>
    intro c s s1 h
    simp only [upto, Option.some.injEq] at h
    subst h
    show _ = ob (evCF c T rec fnid n ar lf s) (fun o => some o)
    cases evCF c T rec fnid n ar lf s <;> rfl
  | cons d p ih =>
    intro c s s1 h
    cases d with
    | l =>
      cases c <;> try (simp [upto] at h; done)
      rename_i x y
      simp only [upto] at h
      have := ih _ _ _ h
      show ob (evCF x T rec fnid n ar lf s) _ = ob (evCF (codeAt p x) T rec fnid n ar lf s1) (fun o => ob (after T rec fnid n ar lf p x o) fun q => outF q.1 q.2 (evCF y T rec fnid n ar lf q.2))
      rw [this]
      cases evCF (codeAt p x) T rec fnid n ar lf s1 <;> rfl
    | r =>
      cases c <;> try (simp [upto] at h; done)
      rename_i x y
      simp only [upto] at h
      show ob (evCF x T rec fnid n ar lf s) (fun p => outF p.1 p.2 (evCF y T rec fnid n ar lf p.2)) = _
      cases hx : evCF x T rec fnid n ar lf s with
      | none => rw [hx] at h; cases h
      | some q =>
        rw [hx] at h
        obtain ⟨o, s'⟩ := q
        cases o with
        | normal => exact ih _ _ _ h
        | exit _ => cases h
        | ret => cases h
    | t =>
      cases c <;> try (simp [upto] at h; done)
      rename_i cc x y
      simp only [upto] at h
      show ob (evF s.env cc) (fun v => boolF (evCF x) (evCF y) v (fun _ _ _ _ _ _ _ => none) T rec fnid n ar lf s) = _
      cases hv : evF s.env cc with
      | none => rw [hv] at h; cases h
      | some v =>
        rw [hv] at h
        cases v <;> try (cases h; done)
        rename_i bb
        cases bb with
        | true => exact ih _ _ _ h
        | false => cases h
    | f =>
      cases c <;> try (simp [upto] at h; done)
      rename_i cc x y
      simp only [upto] at h
      show ob (evF s.env cc) (fun v => boolF (evCF x) (evCF y) v (fun _ _ _ _ _ _ _ => none) T rec fnid n ar lf s) = _
      cases hv : evF s.env cc with
      | none => rw [hv] at h; cases h
      | some v =>
        rw [hv] at h
        cases v <;> try (cases h; done)
        rename_i bb
        cases bb with
        | false => exact ih _ _ _ h
        | true => cases h
    | b =>
      cases c <;> try (simp [upto] at h; done)
      · rename_i id x
        simp only [upto] at h
        have := ih _ _ _ h
        show ob (evCF x T rec fnid n ar lf s) (blockF id) = ob (evCF (codeAt p x) T rec fnid n ar lf s1) (fun o => ob (after T rec fnid n ar lf p x o) (blockF id))
        rw [this]
        cases evCF (codeAt p x) T rec fnid n ar lf s1 <;> rfl
      · rename_i x
        simp only [upto] at h
        exact ih _ _ _ h

/-- rounds of a loop that come to the next round -/
def rounds (g : Heap → Heap) (f : St → Option (Out × St)) (m : Nat) : St → Option St :=
  @Nat.rec (fun _ => St → Option St) (fun s => some s) (fun _ ih s => ob (f s) (goOn fun s' => ih ⟨s'.env, s'.mks, g s'.h⟩)) m

theorem rounds_ok (g : Heap → Heap) (f : St → Option (Out × St)) : ∀ (k m : Nat) (s s1 : St), rounds g f k s = some s1 → iterF g f (k + m) s = iterF g f m s1 := by
  intro k
  induction k with
  | zero =>
    intro m s s1 h
    cases h
    rw [Nat.zero_add]
  | succ k ih =>
    intro m s s1 h
    rw [Nat.succ_add]
    show ob (f s) (fun p => outF p.1 p.2 (iterF g f (k + m) ⟨p.2.env, p.2.mks, g p.2.h⟩)) = _
    have h' : ob (f s) (goOn fun s' => rounds g f k ⟨s'.env, s'.mks, g s'.h⟩) = some s1 := h
    cases hf : f s with
    | none => rw [hf] at h'; cases h'
    | some q =>
      rw [hf] at h'
      obtain ⟨o, s'⟩ := q
      cases o with
      | normal => exact ih m _ _ h'
      | exit _ => cases h'
      | ret => cases h'

/-- the body of a loop -/
def inLoopOf : Code → Code
  | .loop b => b
  | _ => .skip

/-- a function's code, and how many slots it has -/
def codeOf (T : Tab) (f : FuncId) : Code :=
  match T.fn.get f with
  | some fn => match fn.body with
    | some c => c
    | none => .skip
  | none => .skip

def slotsOf (T : Tab) (f : FuncId) : Nat :=
  match T.fn.get f with
  | some fn => fn.ntmps
  | none => 0

def isLoop : Code → Bool
  | .loop _ => true
  | _ => false

/-- what a function comes to behind a run of its code -/
def endF (T : Tab) (f : FuncId) (p : Out × St) : Option (AVal × Heap) :=
  match T.fn.get f with
  | some fn => bodyEnd T fn p
  | none => none

def hasBody (T : Tab) (f : FuncId) : Bool :=
  match T.fn.get f with
  | some fn => match fn.body with
    | some _ => true
    | none => false
  | none => false

theorem body_parts {T : Tab} {rec : Rec} {lf : Nat} {f : FuncId} (hb : hasBody T f = true) (h : Heap) :
    bodyF T rec lf f [] h = ob (evCF (codeOf T f) T rec f (slotsOf T f) none lf ⟨.lf, [], h⟩) (endF T f) := by
  unfold hasBody at hb
  unfold bodyF codeOf slotsOf endF
  rw [getF_eq]
  cases hf : T.fn.get f with
  | none => rw [hf] at hb; cases hb
  | some fn =>
    rw [hf] at hb
    show ob fn.body _ = _
    cases hc : fn.body with
    | none => simp only [] at hb; rw [hc] at hb; cases hb
    | some c => simp only [hc]; rfl

/-- the body of the loop at the end of a way -/
def atLoop (T : Tab) (f : FuncId) (p : List Dir) : Code := inLoopOf (codeAt p (codeOf T f))

/-- up to a loop, and so many of its rounds -/
def firstPart (T : Tab) (rec : Rec) (lf : Nat) (f : FuncId) (p : List Dir) (k : Nat) : Option St :=
  ob (upto T rec f (slotsOf T f) none lf p (codeOf T f) ⟨.lf, [], ⟨.lf, 0⟩⟩) (rounds (T.gc f) (evCF (atLoop T f p) T rec f (slotsOf T f) none lf) k)

/-- so many rounds more -/
def midPart (T : Tab) (rec : Rec) (lf : Nat) (f : FuncId) (p : List Dir) (k : Nat) (s : St) : Option St :=
  rounds (T.gc f) (evCF (atLoop T f p) T rec f (slotsOf T f) none lf) k s

/-- the rest -/
def lastPart (T : Tab) (rec : Rec) (lf : Nat) (f : FuncId) (p : List Dir) (m : Nat) (s : St) : Option (AVal × Heap) :=
  ob (ob (iterF (T.gc f) (evCF (atLoop T f p) T rec f (slotsOf T f) none lf) m s) (after T rec f (slotsOf T f) none lf p (codeOf T f))) (endF T f)

theorem parts_ok {T : Tab} {rec : Rec} {lf k m : Nat} {f : FuncId} {p : List Dir} {s : St} (hb : hasBody T f = true) (hl : isLoop (codeAt p (codeOf T f)) = true)
    (h1 : firstPart T rec lf f p k = some s) (hm : lf = k + m) : bodyF T rec lf f [] ⟨.lf, 0⟩ = lastPart T rec lf f p m s := by
  unfold firstPart at h1
  cases h0 : upto T rec f (slotsOf T f) none lf p (codeOf T f) ⟨.lf, [], ⟨.lf, 0⟩⟩ with
  | none => rw [h0] at h1; cases h1
  | some s0 =>
    rw [h0] at h1
    have h1' : rounds (T.gc f) (evCF (atLoop T f p) T rec f (slotsOf T f) none lf) k s0 = some s := h1
    rw [body_parts hb, upto_ok _ _ _ _ h0]
    have hlp : codeAt p (codeOf T f) = .loop (atLoop T f p) := by
      unfold atLoop
      cases hc : codeAt p (codeOf T f) <;> rw [hc] at hl <;> first | rfl | cases hl
    have : evCF (codeAt p (codeOf T f)) T rec f (slotsOf T f) none lf s0 = iterF (T.gc f) (evCF (atLoop T f p) T rec f (slotsOf T f) none lf) m s := by
      rw [← rounds_ok _ _ k m s0 s h1', ← hm, hlp]
      rfl
    rw [this]
    rfl

/-- rounds, and rounds behind them -/
theorem rounds_add (g : Heap → Heap) (f : St → Option (Out × St)) : ∀ (k m : Nat) (s s1 s2 : St), rounds g f k s = some s1 → rounds g f m s1 = some s2 → rounds g f (k + m) s = some s2 := by
  intro k
  induction k with
  | zero =>
    intro m s s1 s2 h h2
    cases h
    rw [Nat.zero_add]
    exact h2
  | succ k ih =>
    intro m s s1 s2 h h2
    rw [Nat.succ_add]
    show ob (f s) (goOn fun s' => rounds g f (k + m) ⟨s'.env, s'.mks, g s'.h⟩) = _
    have h' : ob (f s) (goOn fun s' => rounds g f k ⟨s'.env, s'.mks, g s'.h⟩) = some s1 := h
    cases hf : f s with
    | none => rw [hf] at h'; cases h'
    | some q =>
      rw [hf] at h'
      obtain ⟨o, s'⟩ := q
      cases o with
      | normal => exact ih m _ _ _ h' h2
      | exit _ => cases h'
      | ret => cases h'

theorem first_mid {T : Tab} {rec : Rec} {lf k m : Nat} {f : FuncId} {p : List Dir} {s s' : St} (h1 : firstPart T rec lf f p k = some s) (h2 : midPart T rec lf f p m s = some s') : firstPart T rec lf f p (k + m) = some s' := by
  unfold firstPart at h1 ⊢
  cases h0 : upto T rec f (slotsOf T f) none lf p (codeOf T f) ⟨.lf, [], ⟨.lf, 0⟩⟩ with
  | none => rw [h0] at h1; cases h1
  | some s0 =>
    rw [h0] at h1
    exact rounds_add _ _ k m s0 s s' h1 h2

/-- slots, objects out of a list -/
def envOf (l : List (Nat × AVal)) : Tree AVal := @List.rec (Nat × AVal) (fun _ => Tree AVal) .lf (fun p _ t => t.set p.1 p.2) l
def heapOf (l : List (Nat × AObj)) : Tree AObj := @List.rec (Nat × AObj) (fun _ => Tree AObj) .lf (fun p _ t => t.set p.1 p.2) l

/-- a function without arguments that comes to true and leaves all that was there: its code's run at hand -/
theorem calls_true' {T : Tab} {P : Program} (hT : TabOk T P) {kn : Known} (hk : KnownOk P kn) {lf d : Nat} {f : FuncId} (hrun : okB (bodyF T (recF T kn lf d) lf f [] ⟨.lf, 0⟩) = true) (w : World) :
    Calls P f #[] w fun e w' => e = .returned (.bool true) ∧ RowKit.Below w.heap.size w w' := by
  rw [bodyF_eq, recF_eq] at hrun
  cases hb : callBody T (recN T kn lf d) lf f [] ⟨.lf, 0⟩ with
  | none => rw [hb] at hrun; simp [okB] at hrun
  | some p =>
    obtain ⟨v, h'⟩ := p
    rw [hb] at hrun
    have hv : v = .bool true := by
      unfold okB at hrun
      split at hrun
      · rename_i h; cases h; rfl
      · cases hrun
    subst hv
    refine Calls.mono (calls_of_run hT (recN_ok hT hk d) hb (empty_rel w) (cargs := []) ⟨rfl, by simp⟩) ?_
    intro e w' hR
    cases e with
    | returned cv =>
      obtain ⟨ρ', h1, h2, h3⟩ := hR
      cases h2
      have hno : ∀ b, ¬ Owns (fun _ => none) ⟨.lf, 0⟩ b := fun b ⟨id, o, ho, _⟩ => by simp [Heap.get, Tree.get] at ho
      exact ⟨rfl, h3.os, h3.tape, h3.output, h3.size, fun b hb => h3.blk b hb (hno b)⟩
    | _ => exact hR.elim

end
end Cv
