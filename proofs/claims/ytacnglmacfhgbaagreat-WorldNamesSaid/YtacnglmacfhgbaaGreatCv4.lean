/-
  An evaluator over abstract values, of use to every statement of this seat: maps, ranges and single operations are as the machine does them. No condition.
-/
import Derived.Test.YtacnglmacfhgbaaGreatCv3

/- Soundness: maps. -/
set_option linter.unusedVariables false
set_option linter.unusedSimpArgs false
namespace Cv
open Go

mutual
theorem beq_eq : ∀ (a b : AVal), AVal.beq a b = true → a = b
  | .bool a, b, h => by cases b <;> simp [AVal.beq] at h; simp [h]
  | .int k a, b, h => by
    cases b <;> simp [AVal.beq] at h
    split at h
    · rename_i hk; simp at hk; simp at h; rw [hk, h]
    · cases h
  | .str a, b, h => by cases b <;> simp [AVal.beq] at h; rw [natsEq_eq] at h; simp at h; rw [h]
  | .nilp, b, h => by cases b <;> simp [AVal.beq] at h; rfl
  | .ptr i o, b, h => by
    cases b <;> simp [AVal.beq] at h
    split at h
    · rename_i hk; rw [beq_eq' hk, beq_eq' h]
    · cases h
  | .nils, b, h => by cases b <;> simp [AVal.beq] at h; rfl
  | .sl i o l (.ex c), b, h => by
    cases b with
    | sl j p m d => cases d <;> simp [AVal.beq] at h; rw [h.1.1.1, h.1.1.2, h.1.2, h.2]
    | _ => simp [AVal.beq] at h
  | .sl i o l (.toEnd c), b, h => by
    cases b with
    | sl j p m d => cases d <;> simp [AVal.beq] at h; rw [h.1.1.1, h.1.1.2, h.1.2, h.2]
    | _ => simp [AVal.beq] at h
  | .emp, b, h => by cases b <;> simp [AVal.beq] at h; rfl
  | .nilm, b, h => by cases b <;> simp [AVal.beq] at h; rfl
  | .mp i, b, h => by cases b <;> simp [AVal.beq] at h; rw [h]
  | .fn f x y, b, h => by
    cases b <;> simp [AVal.beq] at h
    rw [h.1.1, beqL_eq _ _ h.1.2, beqL_eq _ _ h.2]
  | .yld i, b, h => by cases b <;> simp [AVal.beq] at h; rw [h]
  | .nilf, b, h => by cases b <;> simp [AVal.beq] at h; rfl
  | .ifc t v, b, h => by
    cases b <;> simp [AVal.beq] at h
    rw [h.1, beq_eq _ _ h.2]
  | .nili, b, h => by cases b <;> simp [AVal.beq] at h; rfl
  | .agg x, b, h => by cases b <;> simp [AVal.beq] at h; rw [beqL_eq _ _ h]
  | .tup x, b, h => by cases b <;> simp [AVal.beq] at h; rw [beqL_eq _ _ h]
theorem beqL_eq : ∀ (a b : List AVal), beqL a b = true → a = b
  | [], b, h => by cases b <;> simp [beqL] at h; rfl
  | x :: l, b, h => by
    cases b with
    | nil => simp [beqL] at h
    | cons y m =>
      simp only [beqL] at h
      split at h
      · rename_i hk; rw [beq_eq _ _ hk, beqL_eq _ _ h]
      · cases h
end

section
variable {T : Tab} {P : Program} (hT : TabOk T P) {ρ : Ren} {h : Heap} {w : World}
include hT

omit hT in
theorem andThen_of {α β : Type} {x : Sem α} {a : α} {w' : World} {K : α → World → Result β} (h : x.run P w = .ok a w') : (x.run P w).andThen K = K a w' := by rw [h]; rfl

theorem keyFs_ok {em : Bool} {n : Nat} {xs : List AVal} {cs : List Value} (hx : VL ρ w xs cs) (F : Field → PUnit → Sem (ForInStep PUnit))
    (hF : ∀ f c, f.name ≠ "_" → (part f.type cs.toArray f.offset).run P w = .ok c w → (Instr.checkKey em (n + 1) f.type c).run P w = .ok () w → (F f PUnit.unit).run P w = .ok (.yield PUnit.unit) w) :
    ∀ (fs : List Field), keyFs T xs fs = true → (∀ g ∈ fs, g.name ≠ "_") → (forIn fs PUnit.unit F).run P w = .ok PUnit.unit w
  | [], _, _ => by simp
  | g :: fs, e, hn => by
    simp only [keyFs] at e
    split at e
    · rename_i k v hu hp
      obtain ⟨c, r1, v1⟩ := partOf_ok hT hp hx
      have ih := keyFs_ok hx F hF fs e (fun g hg => hn g (by simp [hg]))
      have hck : (Instr.checkKey em (n + 1) g.type c).run P w = .ok () w := by
        simp [Instr.checkKey, run_underlying (und_ok hT hu)]
      rw [List.forIn_cons, Sem.run_bind, hF g c (hn g (by simp)) r1 hck]
      simpa using ih
    · cases e

theorem checkKey_ok' {em : Bool} {kt : TypeId} {k : AVal} (e : keyOk T kt k = true) {c : Value} (hk : V ρ w k c) (n : Nat) : (Instr.checkKey em (n + 2) kt c).run P w = .ok () w := by
  unfold keyOk at e
  split at e
  · rename_i hu
    cases hk
    simp [Instr.checkKey, run_underlying (und_ok hT hu)]
  · rename_i fs xs hu
    cases hk with | agg _ cs hl hxs =>
    split at e
    · rename_i hsok
      split at e
      · obtain ⟨s1, s2, s3⟩ := hT.sok _ hsok
        have hfo : P.fieldsOf kt = fs := by simp [Program.fieldsOf, und_ok hT hu]
        rw [hfo] at s3
        rw [show n + 2 = (n + 1) + 1 from rfl]
        unfold Instr.checkKey
        simp only [Sem.run_bind, run_underlying (und_ok hT hu), Result.andThen_ok]
        rw [← Array.forIn_toList]
        exact (andThen_of (keyFs_ok hT (em := em) (n := n) (cs := cs) ⟨hl, hxs⟩ _ (fun f c h1 h2 h3 => by simp [h1, h2, h3]) fs.toList e s3)).trans rfl
      · cases e
    · cases e
  · cases e

theorem checkKey_ok {em : Bool} {kt : TypeId} {k : AVal} (e : keyOk T kt k = true) {c : Value} (hk : V ρ w k c) : (Instr.checkKey em 10000 kt c).run P w = .ok () w :=
  checkKey_ok' hT e hk 9998

/-- entries, one by one -/
def EL (ρ : Ren) (w : World) (es : List AEnt) (cs : List MapEntry) : Prop := es.length = cs.length ∧ ∀ (i : Nat) (x : AEnt) (c : MapEntry), es[i]? = some x → cs[i]? = some c → V ρ w x.key c.key ∧ V ρ w x.val c.val ∧ x.born = c.born

omit hT in
theorem EL.tail {x : AEnt} {c : MapEntry} {es : List AEnt} {cs : List MapEntry} (h : EL ρ w (x :: es) (c :: cs)) : (V ρ w x.key c.key ∧ V ρ w x.val c.val ∧ x.born = c.born) ∧ EL ρ w es cs :=
  ⟨h.2 0 x c rfl rfl, by have := h.1; simpa using this, fun i y d hy hd => h.2 (i + 1) y d (by simpa using hy) (by simpa using hd)⟩

/-- what is found: nothing, or the entry i -/
def Found (es : List AEnt) (cs : List MapEntry) (off : Nat) : Option (Nat × AEnt) → Option (Nat × Value) → Prop
  | none, none => True
  | some (i, a), some (j, v) => i = j ∧ off ≤ i ∧ ∃ c, es[i - off]? = some a ∧ cs[i - off]? = some c ∧ v = c.val
  | _, _ => False

theorem findE_asking {kt : TypeId} {k : AVal} {c : Value} (hk : V ρ w k c) : ∀ (es : List AEnt) (cs : List MapEntry) (i : Nat) (q : Option (Nat × AEnt)), findE T kt k es i = some q → EL ρ w es cs →
    ∃ q', (Instr.findAsking kt c cs i).run P w = .ok q' w ∧ Found es cs i q q'
  | [], cs, i, q, e, hl => by
    cases cs with
    | nil => simp [findE] at e; subst e; exact ⟨none, by simp [Instr.findAsking], trivial⟩
    | cons c cs => have := hl.1; simp at this
  | x :: es, cs, i, q, e, hl => by
    cases cs with
    | nil => have := hl.1; simp at this
    | cons d cs =>
      obtain ⟨⟨h1, h2, h3⟩, ht⟩ := hl.tail
      simp only [findE] at e
      split at e
      · rename_i he
        cases e
        have heq := eqV_ok hT 5 10000 kt _ _ _ _ _ he hk h1 (by omega)
        refine ⟨some (i, d.val), ?_, rfl, Nat.le_refl _, d, by simp, by simp, rfl⟩
        have heq' : (Op.equal kt c d.key).run P w = .ok true w := heq
        simp [Instr.findAsking, heq']
      · rename_i he
        have heq := eqV_ok hT 5 10000 kt _ _ _ _ _ he hk h1 (by omega)
        have heq' : (Op.equal kt c d.key).run P w = .ok false w := heq
        obtain ⟨q', r1, r2⟩ := findE_asking hk es cs (i + 1) q e ht
        refine ⟨q', by simp [Instr.findAsking, heq', r1], ?_⟩
        cases q with
        | none => cases q' with
          | none => trivial
          | some z => exact r2.elim
        | some z => cases q' with
          | none => exact r2.elim
          | some z' =>
            obtain ⟨a1, a2, cc, a3, a4, a5⟩ := r2
            refine ⟨a1, by omega, cc, ?_, ?_, a5⟩
            · rw [show z.1 - i = (z.1 - (i + 1)) + 1 by omega]; simpa using a3
            · rw [show z.1 - i = (z.1 - (i + 1)) + 1 by omega]; simpa using a4
      · cases e

theorem findE_now {kt : TypeId} {k : AVal} {c : Value} (hk : V ρ w k c) {d : TypeDesc} (hd : P.underlying kt = some d) : ∀ (es : List AEnt) (cs : List MapEntry) (i : Nat) (q : Option (Nat × AEnt)), findE T kt k es i = some q → EL ρ w es cs →
    ∀ q', Instr.findNow d c cs i = some q' → Found es cs i q q'
  | [], cs, i, q, e, hl, q', hq => by
    cases cs with
    | nil => simp [findE] at e; subst e; simp [Instr.findNow] at hq; subst hq; trivial
    | cons c cs => have := hl.1; simp at this
  | x :: es, cs, i, q, e, hl, q', hq => by
    cases cs with
    | nil => have := hl.1; simp at this
    | cons z cs =>
      obtain ⟨⟨h1, h2, h3⟩, ht⟩ := hl.tail
      simp only [findE] at e
      have hsame : ∀ b, eqV T 5 kt k x.key = some b → ∀ b', Instr.sameNow d c z.key = some b' → b = b' := by
        intro b hb b' hb'
        have heq := eqV_ok hT 5 5 kt _ _ _ _ _ hb hk h1 (Nat.le_refl _)
        rw [show (5 : Nat) = 4 + 1 from rfl] at heq
        unfold Instr.sameNow at hb'
        split at hb'
        · rename_i kk a m b2 n e2
          split at hb'
          · rename_i hkk; subst hkk; cases hb'
            rw [e2, run_equalIn_int w 4 kt _ _ _ _ hd] at heq
            injection heq with heq; exact heq.symm
          · cases hb'
        · rename_i a b2 e2
          cases hb'
          rw [e2, run_equalIn_string w 4 kt _ _ hd] at heq
          injection heq with heq
          rw [beq_toListBytes]; exact heq.symm
        · rename_i a b2 e2
          cases hb'
          rw [e2, run_equalIn_bool' w 4 kt _ _ hd] at heq
          injection heq with heq; exact heq.symm
        · cases hb'
      split at e
      · rename_i he
        cases e
        simp only [Instr.findNow] at hq
        split at hq
        · cases hq
          exact ⟨rfl, Nat.le_refl _, z, by simp, by simp, rfl⟩
        · rename_i hb; exact absurd (hsame _ he _ hb) (by simp)
        · cases hq
      · rename_i he
        simp only [Instr.findNow] at hq
        split at hq
        · rename_i hb; exact absurd (hsame _ he _ hb) (by simp)
        · have r2 := findE_now hk hd es cs (i + 1) q e ht q' hq
          cases q with
          | none => cases q' with
            | none => trivial
            | some z => exact r2.elim
          | some z => cases q' with
            | none => exact r2.elim
            | some z' =>
              obtain ⟨a1, a2, cc, a3, a4, a5⟩ := r2
              refine ⟨a1, by omega, cc, ?_, ?_, a5⟩
              · rw [show z.1 - i = (z.1 - (i + 1)) + 1 by omega]; simpa using a3
              · rw [show z.1 - i = (z.1 - (i + 1)) + 1 by omega]; simpa using a4
        · cases hq
      · cases e

theorem findKey_ok {kt : TypeId} {k : AVal} {c : Value} (hk : V ρ w k c) (hko : keyOk T kt k = true) {es : List AEnt} {cs : List MapEntry} {q : Option (Nat × AEnt)} (e : findE T kt k es 0 = some q) (hl : EL ρ w es cs) :
    ∃ q', (Instr.findKey kt c cs).run P w = .ok q' w ∧ Found es cs 0 q q' := by
  have hd : ∃ d, P.underlying kt = some d := by
    unfold keyOk at hko
    split at hko
    · rename_i hu; exact ⟨_, und_ok hT hu⟩
    · rename_i hu; exact ⟨_, und_ok hT hu⟩
    · cases hko
  obtain ⟨d, hd⟩ := hd
  cases hn : Instr.findNow d c cs 0 with
  | some q' => exact ⟨q', by simp [Instr.findKey, run_underlying hd, hn], findE_now hT hk hd es cs 0 q e hl q' hn⟩
  | none =>
    obtain ⟨q', r1, r2⟩ := findE_asking hT hk es cs 0 q e hl
    exact ⟨q', by simp [Instr.findKey, run_underlying hd, hn, r1], r2⟩

omit hT in
theorem Rel.map (r : Rel ρ h w) {id b : Nat} {es : List AEnt} {cl : Nat} (ho : h.get id = some (.map es cl)) (hb : ρ id = some b) : ∃ cs, w.heap[b]? = some (.map cs.toArray cl) ∧ EL ρ w es cs := by
  obtain ⟨b', c, h1, h2, h3⟩ := r.obj _ _ ho
  rw [hb] at h1; cases h1
  cases h3 with | map _ _ cs hl hes => exact ⟨cs, h2, hl, hes⟩

omit hT in
theorem run_getObj_map {w : World} {b : Nat} {cs : Array MapEntry} {cl : Nat} (hb : w.heap[b]? = some (.map cs cl)) : (getObj b).run P w = .ok (.map cs cl) w := by
  simp [getObj, Sem.run, hb]

theorem opLookup_ok {t : TypeId} {m k v : AVal} {ok : Bool} (e : opLookup T h t m k ok = some v) (r : Rel ρ h w) {c d : Value} (hm : V ρ w m c) (hk : V ρ w k d) :
    ∃ q, (Instr.lookup t c d ok).run P w = .ok q w ∧ V ρ w v q := by
  unfold opLookup at e
  split at e
  · rename_i kt el hu
    have hu' := und_ok hT hu
    split at e
    · rename_i z hko hz
      obtain ⟨i, zc, hi, hic, hrun, hv⟩ := zero_ok hT hz w
      have hzero : ∀ cv : Value, V ρ w z cv → V ρ w (if ok then .tup [z, .bool false] else z) (if ok then .tuple #[cv, .bool false] else cv) := fun cv hcv => by
        cases ok
        · exact hcv
        · exact .tup _ [cv, .bool false] rfl (VL.cons hcv (VL.cons (.bool false) (.nil _ _))).2
      split at e
      · cases hm; cases e
        refine ⟨_, ?_, hzero zc (hv ρ w)⟩
        have hck := checkKey_ok (P := P) hT (em := true) hko hk
        have hfk : (Instr.findKey kt d []).run P w = .ok none w := by
          obtain ⟨q', r1, r2⟩ := findKey_ok hT hk hko (es := []) (cs := []) (q := none) rfl ⟨rfl, by simp⟩
          cases q' with
          | none => exact r1
          | some z => exact r2.elim
        simp [Instr.lookup, run_underlying hu', hck, hfk, hrun]
      · rename_i id
        cases hm with | mp hb =>
        rename_i bb
        split at e
        · rename_i es cl ho
          obtain ⟨cs, hblk, hel⟩ := r.map ho hb
          have hck := fun em => checkKey_ok (P := P) hT (em := em) hko hk
          have hg := run_getObj_map (P := P) hblk
          split at e
          · rename_i ix a hf
            cases e
            obtain ⟨q', r1, r2⟩ := findKey_ok hT hk hko hf hel
            cases q' with
            | none => exact r2.elim
            | some z =>
              obtain ⟨a1, a2, cc, a3, a4, a5⟩ := r2
              obtain ⟨b1, b2, b3⟩ := hel.2 _ _ _ a3 a4
              obtain ⟨z1, z2⟩ := z
              simp only at a1 a5
              subst a5
              refine ⟨if ok then .tuple #[cc.val, .bool true] else cc.val, ?_, ?_⟩
              · simp [Instr.lookup, run_underlying hu', hg, hck, r1]
              · cases ok
                · exact b2
                · exact .tup _ [cc.val, .bool true] rfl (VL.cons b2 (VL.cons (.bool true) (.nil _ _))).2
          · rename_i hf
            cases e
            obtain ⟨q', r1, r2⟩ := findKey_ok hT hk hko hf hel
            cases q' with
            | some z => exact r2.elim
            | none =>
              refine ⟨_, ?_, hzero zc (hv ρ w)⟩
              simp [Instr.lookup, run_underlying hu', hg, hck, r1, hrun]
          · cases e
        · cases e
      · cases e
    · cases e
  · cases e

omit hT in
theorem allInt_key {xs : List AVal} (ha : xs.all (fun x => match x with | .int _ _ => true | _ => false) = true) : ∀ {cs ds : List Value}, VL ρ w xs cs → VL ρ w xs ds → cs = ds ∧ ∀ n, (cs.zip ds).all (fun p => Instr.sameBits n p.1 p.2) = true := by
  induction xs with
  | nil =>
    intro cs ds h1 h2
    cases cs with
    | nil => cases ds with
      | nil => exact ⟨rfl, by simp⟩
      | cons d ds => have := h2.1; simp at this
    | cons c cs => have := h1.1; simp at this
  | cons x xs ih =>
    intro cs ds h1 h2
    cases cs with
    | nil => have := h1.1; simp at this
    | cons c cs => cases ds with
      | nil => have := h2.1; simp at this
      | cons d ds =>
        simp only [List.all_cons, Bool.and_eq_true] at ha
        obtain ⟨i1, i2⟩ := ih ha.2 h1.tail.2 h2.tail.2
        have hx1 := h1.tail.1
        have hx2 := h2.tail.1
        cases x with
        | int k n =>
          cases hx1; cases hx2
          exact ⟨by rw [i1], fun m => by simp [i2 m, Instr.sameBits]⟩
        | _ => simp at ha

omit hT in
theorem key_same {kt : TypeId} {k : AVal} (e : keyOk T kt k = true) {c d : Value} (h1 : V ρ w k c) (h2 : V ρ w k d) : c = d ∧ ∀ n, Instr.sameBits (n + 2) c d = true := by
  unfold keyOk at e
  split at e
  · cases h1; cases h2; exact ⟨rfl, fun n => by simp [Instr.sameBits]⟩
  · rename_i fs xs hu
    cases h1 with | agg _ cs hl hxs => cases h2 with | agg _ ds hl' hxs' =>
    split at e
    · split at e
      · rename_i ha
        obtain ⟨a1, a2⟩ := allInt_key ha (ρ := ρ) (w := w) (cs := cs) (ds := ds) ⟨hl, hxs⟩ ⟨hl', hxs'⟩
        refine ⟨by rw [a1], fun n => ?_⟩
        have hlen : cs.length = ds.length := by rw [a1]
        simp only [Instr.sameBits, List.size_toArray, hlen, beq_self_eq_true, Bool.true_and]
        exact a2 (n + 1)
      · cases e
    · cases e
  · cases e

omit hT in
theorem run_setObj_map {w : World} {b : Nat} {cs : Array MapEntry} {cl : Nat} (hb : w.heap[b]? = some (.map cs cl)) (o : Obj) : (setObj b o).run P w = .ok () { w with heap := w.heap.setIfInBounds b o } := by
  simp [setObj, Sem.run, hb]

omit hT in
theorem Rel.setMap (r : Rel ρ h w) {id b : Nat} {es es' : List AEnt} {cl cl' : Nat} {cs : List MapEntry} {cs' : List MapEntry} (ho : h.get id = some (.map es cl)) (hb : ρ id = some b) (hblk : w.heap[b]? = some (.map cs.toArray cl)) (hel : EL ρ w es' cs') :
    Rel ρ (h.set id (.map es' cl')) { w with heap := w.heap.setIfInBounds b (.map cs'.toArray cl') } ∧ Ext (fun _ => False) ρ h w ρ (h.set id (.map es' cl')) { w with heap := w.heap.setIfInBounds b (.map cs'.toArray cl') } :=
  r.turn (c' := .map cs'.toArray cl') ho hb hblk rfl rfl rfl rfl (fun e n he => by simp [World.shape?, hblk] at he) (.map es' cl' cs' hel.1 hel.2)

theorem opMapUpdate_ok {t : TypeId} {m k v : AVal} {h' : Heap} (e : opMapUpdate T h t m k v = some h') (r : Rel ρ h w) {c d f : Value} (hm : V ρ w m c) (hk : V ρ w k d) (hv : V ρ w v f) :
    ∃ w', (Instr.mapUpdate t c d f).run P w = .ok () w' ∧ Rel ρ h' w' ∧ Ext (fun _ => False) ρ h w ρ h' w' := by
  unfold opMapUpdate at e
  split at e
  · rename_i kt el hu
    have hu' := und_ok hT hu
    split at e
    · rename_i id hko
      cases hm with | mp hb =>
      rename_i bb
      split at e
      · rename_i es cl ho
        obtain ⟨cs, hblk, hel⟩ := r.map ho hb
        have hck := fun em => checkKey_ok (P := P) hT (em := em) hko hk
        have hg := run_getObj_map (P := P) hblk
        split at e
        · rename_i ix a hf
          split at e
          · rename_i hbeq
            cases e
            have hke := beq_eq _ _ hbeq
            obtain ⟨q', r1, r2⟩ := findKey_ok hT hk hko hf hel
            cases q' with
            | none => exact r2.elim
            | some z =>
              obtain ⟨z1, z2⟩ := z
              obtain ⟨a1, a2, cc, a3, a4, a5⟩ := r2
              simp only [Nat.sub_zero] at a1 a3 a4
              subst a1
              obtain ⟨b1, b2, b3⟩ := hel.2 _ _ _ a3 a4
              rw [← hke] at b1
              obtain ⟨ks, kb⟩ := key_same hko b1 hk
              have hlt : ix < cs.length := by
                rcases Nat.lt_or_ge ix cs.length with hl | hl
                · exact hl
                · rw [List.getElem?_eq_none hl] at a4; cases a4
              let cs' := upd cs ix [({ cc with key := d, val := f } : MapEntry)]
              have hel' : EL ρ w (upd es ix [⟨k, v, a.born⟩]) cs' := by
                refine ⟨by rw [upd_length, upd_length]; exact hel.1, fun i x y hx hy => ?_⟩
                rw [upd_get _ _ _ _ (by simp; have := hel.1; omega)] at hx
                rw [upd_get _ _ _ _ (by simp; omega)] at hy
                by_cases hi : ix ≤ i ∧ i < ix + 1
                · have : i = ix := by omega
                  subst this
                  simp at hx hy
                  subst hx; subst hy
                  exact ⟨hk, hv, b3⟩
                · simp only [List.length_singleton] at hx hy
                  rw [if_neg hi] at hx hy
                  exact hel.2 _ _ _ hx hy
              obtain ⟨m1, m2⟩ := r.setMap (cl' := cl) ho hb hblk hel'
              refine ⟨_, ?_, m1, m2⟩
              have hks : (Instr.keyThatStays ((((cs.toArray)[ix]?).map (·.key)).getD d) d).run P w = .ok d w := by
                have h0 : ((((cs.toArray)[ix]?).map (·.key)).getD d) = d := by simp [a4, ks]
                rw [h0]
                have h1 := kb 9998
                rw [ks] at h1
                have h1' : Instr.sameBits 10000 d d = true := h1
                unfold Instr.keyThatStays
                rw [h1']; rfl
              have hmod : cs.toArray.modify ix (fun e => { e with key := d, val := f }) = cs'.toArray := by
                apply Array.ext_getElem?
                intro j
                rw [Array.getElem?_modify, List.getElem?_toArray, List.getElem?_toArray, upd_get _ _ _ _ (by simp; omega)]
                by_cases hj : ix = j
                · subst hj
                  rw [if_pos rfl, if_pos (by simp), a4]; simp
                · rw [if_neg hj, if_neg (by simp; omega)]
              simp only [Instr.mapUpdate, Sem.run_bind, run_underlying hu', Result.andThen_ok, hg, hck, r1, hks, hmod]
              exact run_setObj_map hblk _
          · cases e
        · rename_i hf
          cases e
          obtain ⟨q', r1, r2⟩ := findKey_ok hT hk hko hf hel
          cases q' with
          | some z => exact r2.elim
          | none =>
            let cs' := cs ++ [({ key := d, val := f, born := cl } : MapEntry)]
            have hel' : EL ρ w (es ++ [⟨k, v, cl⟩]) cs' := by
              refine ⟨by simp [cs', hel.1], fun i x y hx hy => ?_⟩
              by_cases hi : i < es.length
              · rw [List.getElem?_append_left hi] at hx
                rw [List.getElem?_append_left (by rw [← hel.1]; exact hi)] at hy
                exact hel.2 _ _ _ hx hy
              · rw [List.getElem?_append_right (by omega)] at hx
                rw [List.getElem?_append_right (by rw [← hel.1]; omega)] at hy
                rw [← hel.1] at hy
                by_cases h0 : i - es.length = 0
                · rw [h0] at hx hy; simp at hx hy; subst hx; subst hy; exact ⟨hk, hv, rfl⟩
                · rw [List.getElem?_eq_none (by simp; omega)] at hx; cases hx
            obtain ⟨m1, m2⟩ := r.setMap (cl' := cl + 1) ho hb hblk hel'
            refine ⟨_, ?_, m1, m2⟩
            have hpush : cs.toArray.push { key := d, val := f, born := cl } = cs'.toArray := by simp [cs']
            simp only [Instr.mapUpdate, Sem.run_bind, run_underlying hu', Result.andThen_ok, hg, hck, r1, hpush]
            exact run_setObj_map hblk _
        · cases e
      · cases e
    · cases e
  · cases e

theorem opDelete_ok {t ty xt : TypeId} {m k : AVal} {h' : Heap} (e : opDelete T h t m k = some h') (r : Rel ρ h w) {c d : Value} (hm : V ρ w m c) (hk : V ρ w k d) :
    ∃ w', (Builtin.delete_ #[t, xt] ty #[c, d]).run P w = .ok (.tuple #[]) w' ∧ Rel ρ h' w' ∧ Ext (fun _ => False) ρ h w ρ h' w' := by
  unfold opDelete at e
  split at e
  · rename_i kt el hu
    have hu' := und_ok hT hu
    split at e
    · rename_i hko
      cases hm; cases e
      have hck := fun em => checkKey_ok (P := P) hT (em := em) hko hk
      exact ⟨w, by simp [Builtin.delete_, run_underlying hu', hck], r, Ext.refl _ _ _ _⟩
    · rename_i id hko
      cases hm with | mp hb =>
      rename_i bb
      split at e
      · rename_i es cl ho
        obtain ⟨cs, hblk, hel⟩ := r.map ho hb
        have hck := fun em => checkKey_ok (P := P) hT (em := em) hko hk
        have hg := run_getObj_map (P := P) hblk
        split at e
        · rename_i ix a hf
          cases e
          obtain ⟨q', r1, r2⟩ := findKey_ok hT hk hko hf hel
          cases q' with
          | none => exact r2.elim
          | some z =>
            obtain ⟨z1, z2⟩ := z
            obtain ⟨a1, a2, cc, a3, a4, a5⟩ := r2
            simp only [Nat.sub_zero] at a1 a3 a4
            subst a1
            have hlt : ix < cs.length := by
              rcases Nat.lt_or_ge ix cs.length with hl | hl
              · exact hl
              · rw [List.getElem?_eq_none hl] at a4; cases a4
            have hel' : EL ρ w (es.eraseIdx ix) (cs.eraseIdx ix) := by
              refine ⟨by rw [List.length_eraseIdx, List.length_eraseIdx, hel.1], fun i x y hx hy => ?_⟩
              rw [List.getElem?_eraseIdx] at hx hy
              by_cases hi : i < ix
              · rw [if_pos hi] at hx hy; exact hel.2 _ _ _ hx hy
              · rw [if_neg hi] at hx hy; exact hel.2 _ _ _ hx hy
            obtain ⟨m1, m2⟩ := r.setMap (cl' := cl) ho hb hblk hel'
            refine ⟨_, ?_, m1, m2⟩
            have her : cs.toArray.eraseIdxIfInBounds ix = (cs.eraseIdx ix).toArray := by
              rw [Array.eraseIdxIfInBounds]
              rw [dif_pos (by simpa using hlt)]
              simp
            simp only [Builtin.delete_]
            simp [run_underlying hu', hg, hck, r1, her, run_setObj_map hblk]
        · rename_i hf
          cases e
          obtain ⟨q', r1, r2⟩ := findKey_ok hT hk hko hf hel
          cases q' with
          | some z => exact r2.elim
          | none =>
            obtain ⟨m1, m2⟩ := r.setMap (cl' := cl) ho hb hblk hel
            refine ⟨_, ?_, m1, m2⟩
            simp only [Builtin.delete_]
            simp [run_underlying hu', hg, hck, r1, run_setObj_map hblk]
        · cases e
      · cases e
    · cases e
  · cases e

end
end Cv

/- Soundness: one operation, calls apart. -/
set_option linter.unusedVariables false
set_option linter.unusedSimpArgs false
namespace Cv
open Go

section
variable {T : Tab} {P : Program} (hT : TabOk T P) {ρ : Ren} {h : Heap} {w : World}
include hT

theorem opRange_ok {rid : Nat} {t : TypeId} {m v : AVal} {h' : Heap} (e : opRange T h rid t m = some (v, h')) (r : Rel ρ h w) (hr : ρ rid = none ∧ rid < h.next) {c : Value} (hm : V ρ w m c) :
    ∃ ρ' w' q, (Instr.range t c).run P w = .ok q w' ∧ Rel ρ' h' w' ∧ V ρ' w' v q ∧ Ext (· = rid) ρ h w ρ' h' w' := by
  unfold opRange at e
  split at e
  · rename_i a b hu
    cases hm; cases e
    obtain ⟨n1, n2, n3⟩ := r.new (w' := w.alloc (.mapIter none 0 #[] 0)) hr.1 hr.2 rfl rfl rfl rfl (OR.iterNil 0 [] 0)
    exact ⟨_, _, .pointer (some ⟨w.heap.size, 0, none⟩), by simp [Instr.range, run_underlying (und_ok hT hu)], n1, .ptr _ n3, n2⟩
  · rename_i a b id hu
    cases hm with | mp hb =>
    rename_i bb
    split at e
    · rename_i es cl ho
      cases e
      obtain ⟨cs, hblk, hel⟩ := r.map ho hb
      have hg := run_getObj_map (P := P) hblk
      obtain ⟨n1, n2, n3⟩ := r.new (w' := w.alloc (.mapIter (some bb) cl #[] cl)) hr.1 hr.2 rfl rfl rfl rfl (OR.iter cl [] cl hb)
      exact ⟨_, _, .pointer (some ⟨w.heap.size, 0, none⟩), by simp [Instr.range, run_underlying (und_ok hT hu), hg], n1, .ptr _ n3, n2⟩
    · cases e
  · cases e

omit hT in
/-- filtering both lists of entries by their births -/
theorem EL.filter {es : List AEnt} {cs : List MapEntry} (hl : EL ρ w es cs) (p : Nat → Bool) : EL ρ w (es.filter fun e => p e.born) (cs.filter fun e => p e.born) := by
  induction es generalizing cs with
  | nil => cases cs with
    | nil => exact ⟨rfl, by simp⟩
    | cons c cs => have := hl.1; simp at this
  | cons x es ih => cases cs with
    | nil => have := hl.1; simp at this
    | cons c cs =>
      obtain ⟨⟨h1, h2, h3⟩, ht⟩ := hl.tail
      have i1 := ih ht
      simp only [List.filter_cons, ← h3]
      split
      · refine ⟨by simp [i1.1], fun i y d hy hd => ?_⟩
        cases i with
        | zero => simp at hy hd; subst hy; subst hd; exact ⟨h1, h2, h3⟩
        | succ i => exact i1.2 i y d (by simpa using hy) (by simpa using hd)
      · exact i1

omit hT in
theorem EL.all {es : List AEnt} {cs : List MapEntry} (hl : EL ρ w es cs) (p : Nat → Bool) : es.all (fun e => p e.born) = cs.all (fun e => p e.born) := by
  induction es generalizing cs with
  | nil => cases cs with
    | nil => rfl
    | cons c cs => have := hl.1; simp at this
  | cons x es ih => cases cs with
    | nil => have := hl.1; simp at this
    | cons c cs =>
      obtain ⟨⟨h1, h2, h3⟩, ht⟩ := hl.tail
      simp [ih ht, h3]

omit hT in
theorem opNext_ok {it v : AVal} {h' : Heap} (e : opNext h it = some (v, h')) (r : Rel ρ h w) {c : Value} (hc : V ρ w it c) (ty : TypeId) :
    ∃ w' q, (Instr.next c false ty).run P w = .ok q w' ∧ Rel ρ h' w' ∧ V ρ w' v q ∧ Ext (fun _ => False) ρ h w ρ h' w' := by
  unfold opNext at e
  split at e
  · rename_i rr
    cases hc with | ptr _ hb =>
    rename_i bb
    have hover : V ρ w (.tup [.bool false]) (.tuple #[.bool false]) := .tup _ [.bool false] rfl (VL.cons (.bool false) (.nil _ _)).2
    split at e
    · rename_i a b d ho
      cases e
      obtain ⟨b', c', h1, h2, h3⟩ := r.obj _ _ ho
      rw [hb] at h1; cases h1
      cases h3
      refine ⟨w, .tuple #[.bool false], ?_, r, hover, Ext.refl _ _ _ _⟩
      simp [Instr.next, getObj, Sem.run, h2]
    · rename_i m since seen last ho
      obtain ⟨b', c', h1, h2, h3⟩ := r.obj _ _ ho
      rw [hb] at h1; cases h1
      cases h3 with | iter _ _ _ hm =>
      rename_i mb
      have hgi : (getObj bb).run P w = .ok (.mapIter (some mb) since seen.toArray last) w := by simp [getObj, Sem.run, h2]
      split at e
      · rename_i es cl hom
        obtain ⟨cs, hblk, hel⟩ := r.map hom hm
        have hgm := run_getObj_map (P := P) hblk
        split at e
        · cases e
        · rename_i hbad
          have hbad' : (!seen.isEmpty && !cs.isEmpty && cs.all (fun e => decide (e.born ≥ last))) = false := by
            rw [← hbad, hel.all (fun b => decide (b ≥ last))]
            have : es.isEmpty = cs.isEmpty := by
              have := hel.1
              cases es <;> cases cs <;> simp at this <;> rfl
            rw [this]
          have hleft := hel.filter (fun b => !seen.contains b)
          have hbadA : (!(seen.toArray).isEmpty && !(cs.toArray).isEmpty && (cs.toArray).all (fun e => decide (e.born ≥ last))) = false := by
            simpa using hbad'
          have hfA : (cs.toArray).filter (fun e => !(seen.toArray).contains e.born) = (cs.filter (fun e => !seen.contains e.born)).toArray := by
            simp
          split at e
          · rename_i hnil
            cases e
            rw [hnil] at hleft
            have hcn : cs.filter (fun e => !seen.contains e.born) = [] := List.eq_nil_of_length_eq_zero (by have := hleft.1; simpa using this.symm)
            refine ⟨w, .tuple #[.bool false], ?_, r, hover, Ext.refl _ _ _ _⟩
            rw [hcn] at hfA
            simp only [Instr.next, Sem.run_bind, hgi, Result.andThen_ok, hgm, hbadA, Bool.false_eq_true, if_false, hfA]
            simp [choose, Sem.run, Question.forced]
          · rename_i x hone
            split at e
            · rename_i hlt
              have hlt : x.born < since := blt_lt hlt
              cases e
              rw [hone] at hleft
              have hlen := hleft.1
              obtain ⟨cx, hcx⟩ : ∃ cx, cs.filter (fun e => !seen.contains e.born) = [cx] := by
                generalize cs.filter (fun e => !seen.contains e.born) = l at hlen
                match l, hlen with
                | [cx], _ => exact ⟨cx, rfl⟩
              rw [hcx] at hleft hfA
              obtain ⟨k1, k2, k3⟩ := hleft.2 0 x cx rfl rfl
              have hclt : cx.born < since := by omega
              have hturn := r.turn (w' := { w with heap := w.heap.setIfInBounds bb (.mapIter (some mb) since (seen ++ [x.born]).toArray cl) }) (c' := .mapIter (some mb) since (seen ++ [x.born]).toArray cl) (o' := .iter (some m) since (seen ++ [x.born]) cl) ho hb h2 rfl rfl rfl rfl (fun e n he => by simp [World.shape?, h2] at he) (.iter since (seen ++ [x.born]) cl hm)
              refine ⟨_, .tuple #[.bool true, cx.key, cx.val], ?_, hturn.1, ?_, hturn.2⟩
              · have hset : (setObj bb (.mapIter (some mb) since (seen ++ [cx.born]).toArray cl)).run P w = .ok () { w with heap := w.heap.setIfInBounds bb (.mapIter (some mb) since (seen ++ [x.born]).toArray cl) } := by
                  rw [← k3]
                  simp [setObj, Sem.run, h2]
                have hnge : ¬ (cx.born ≥ since) := by omega
                simp only [Instr.next, Sem.run_bind, hgi, Result.andThen_ok, hgm, hbadA, Bool.false_eq_true, if_false, hfA]
                simp [hclt, choose, Sem.run, Question.forced, hset]
              · have := (VL.cons (V.bool (ρ := ρ) (w := w) true) (VL.cons k1 (VL.cons k2 (VL.nil ρ w)))).mono hturn.2.grow
                exact .tup _ [.bool true, cx.key, cx.val] rfl this.2
            · cases e
          · cases e
      · cases e
    · cases e
  · cases e

omit hT in
theorem evs_ok {env : Tree AVal} {l : List Operand} {r : List AVal} (e : evs env l = some r) {evf : Operand → Value} (hE : ∀ x ∈ l, ∀ a, ev env x = some a → V ρ w a (evf x)) : VL ρ w r (l.map evf) := by
  have := omap_some e
  refine ⟨by simp [this.1], fun i x c hx hc => ?_⟩
  obtain ⟨a, h1, h2⟩ := this.2 i x hx
  rw [List.getElem?_map, h1] at hc
  simp at hc; subst hc
  exact hE a (List.mem_of_getElem? h1) _ h2

omit hT in
theorem oev_ok {env : Tree AVal} {x : Option Operand} {r : Option AVal} (e : oev env x = some r) {evf : Operand → Value} (hE : ∀ y, x = some y → ∀ a, ev env y = some a → V ρ w a (evf y)) : OV ρ w r (x.map evf) := by
  unfold oev at e
  split at e
  · cases e; trivial
  · split at e
    · rename_i v hv; cases e; exact hE _ rfl _ hv
    · cases e

/-- what an operation comes to -/
def Done (P : Program) (s : Sem Next) (w : World) (c : Value) (w' : World) : Prop := s.run P w = .ok (.value c) w' ∨ (s.run P w = .ok .skip w' ∧ c = undef)

omit hT in
theorem Done.v {s : Sem Value} {c : Value} {w' : World} (hs : s.run P w = .ok c w') : Done P (do pure (.value (← s))) w c w' := .inl (by simp [hs])

omit hT in
theorem Done.u {s : Sem Unit} {w' : World} (hs : s.run P w = .ok () w') : Done P (do s; pure .skip) w undef w' := .inr ⟨by simp [hs], rfl⟩

omit hT in
theorem noVal_ok (ρ : Ren) (w : World) : V ρ w noVal undef := .tup [] [] rfl (by simp)

theorem evBuiltin_ok {rid : Nat} {b : Builtin} {ts : List TypeId} {xs : List AVal} {v : AVal} {h' : Heap} (e : evBuiltin T h rid b ts xs = some (v, h')) (r : Rel ρ h w) (hr : b = .append → ρ rid = none ∧ rid < h.next) {cs : List Value} (hx : VL ρ w xs cs) (ty : TypeId) (consts : Array Bool) :
    ∃ c ρ' w', (builtin b ts.toArray ty consts cs.toArray).run P w = .ok (.value c) w' ∧ Rel ρ' h' w' ∧ V ρ' w' v c ∧ Ext (· = rid) ρ h w ρ' h' w' := by
  have two : ∀ {a b : AVal}, xs = [a, b] → ∃ c d, cs = [c, d] ∧ V ρ w a c ∧ V ρ w b d := fun {a b} hxs => by
    subst hxs
    match cs, hx.1 with
    | [c, d], _ => exact ⟨c, d, rfl, hx.2 0 _ _ rfl rfl, hx.2 1 _ _ rfl rfl⟩
  have one : ∀ {a : AVal}, xs = [a] → ∃ c, cs = [c] ∧ V ρ w a c := fun {a} hxs => by
    subst hxs
    match cs, hx.1 with
    | [c], _ => exact ⟨c, rfl, hx.2 0 _ _ rfl rfl⟩
  unfold evBuiltin at e
  split at e
  · obtain ⟨c, d, rfl, h1, h2⟩ := two rfl
    obtain ⟨ρ', w', q, a1, a2, a3, a4⟩ := opAppend_ok hT e r (hr rfl) h1 h2
    exact ⟨q, ρ', w', by simp only [builtin, Sem.run_bind]; exact (andThen_of a1).trans rfl, a2, a3, a4⟩
  · obtain ⟨c, d, rfl, h1, h2⟩ := two rfl
    obtain ⟨w', q, a1, a2, a3, a4⟩ := opCopy_ok hT e r h1 h2
    exact ⟨q, ρ, w', by simp only [builtin, Sem.run_bind]; exact (andThen_of a1).trans rfl, a2, a3, a4.weaken (fun _ h => h.elim)⟩
  · split at e
    · rename_i hcl
      cases e
      obtain ⟨c, rfl, h1⟩ := one rfl
      obtain ⟨w', a1, a2, a4⟩ := opClear_ok hT hcl r h1
      exact ⟨.tuple #[], ρ, w', by simp only [builtin, Sem.run_bind]; exact (andThen_of a1).trans rfl, a2, noVal_ok _ _, a4.weaken (fun _ h => h.elim)⟩
    · cases e
  · split at e
    · rename_i hcl
      cases e
      obtain ⟨c, rfl, h1⟩ := one rfl
      obtain ⟨d, a1, a2⟩ := opLen_ok hT hcl r h1
      exact ⟨d, ρ, w, by simp only [builtin, Sem.run_bind]; exact (andThen_of a1).trans rfl, r, a2, Ext.refl _ _ _ _⟩
    · cases e
  · split at e
    · rename_i hcl
      cases e
      obtain ⟨c, rfl, h1⟩ := one rfl
      obtain ⟨d, a1, a2⟩ := opCap_ok hT hcl h1
      exact ⟨d, ρ, w, by simp only [builtin, Sem.run_bind]; exact (andThen_of a1).trans rfl, r, a2, Ext.refl _ _ _ _⟩
    · cases e
  · split at e
    · rename_i hcl
      cases e
      obtain ⟨d, a1, a2⟩ := opMax_ok (P := P) hcl hx ts.toArray ty
      exact ⟨d, ρ, w, by simp only [builtin, Sem.run_bind]; exact (andThen_of a1).trans rfl, r, a2, Ext.refl _ _ _ _⟩
    · cases e
  · split at e
    · rename_i hcl
      cases e
      obtain ⟨d, a1, a2⟩ := opMin_ok (P := P) hcl hx ts.toArray ty
      exact ⟨d, ρ, w, by simp only [builtin, Sem.run_bind]; exact (andThen_of a1).trans rfl, r, a2, Ext.refl _ _ _ _⟩
    · cases e
  · rename_i t tl m k
    split at e
    · rename_i hcl
      cases e
      obtain ⟨c, d, rfl, h1, h2⟩ := two rfl
      have : ∃ w', (Builtin.delete_ (t :: tl).toArray ty #[c, d]).run P w = .ok (.tuple #[]) w' ∧ Rel ρ h' w' ∧ Ext (fun _ => False) ρ h w ρ h' w' := by
        obtain ⟨w', a1, a2, a3⟩ := opDelete_ok hT (ty := ty) (xt := 0) hcl r h1 h2
        refine ⟨w', ?_, a2, a3⟩
        rw [← a1]
        simp [Builtin.delete_]
      obtain ⟨w', a1, a2, a4⟩ := this
      exact ⟨.tuple #[], ρ, w', by simp only [builtin, Sem.run_bind]; exact (andThen_of a1).trans rfl, a2, noVal_ok _ _, a4.weaken (fun _ h => h.elim)⟩
    · cases e
  · cases e

end
end Cv

/- Soundness: one operation, calls of functions apart. -/
set_option linter.unusedVariables false
set_option linter.unusedSimpArgs false
namespace Cv
open Go

section
variable {T : Tab} {P : Program} (hT : TabOk T P) {ρ : Ren} {h : Heap} {w : World}
include hT

omit hT in
theorem withH_some {o : Option AVal} {v : AVal} {h' : Heap} (e : withH h o = some (v, h')) : o = some v ∧ h' = h := by
  cases o <;> simp [withH] at e
  exact ⟨by rw [e.1], e.2.symm⟩

omit hT in
theorem done_some {o : Option Heap} {v : AVal} {h' : Heap} (e : done o = some (v, h')) : o = some h' ∧ v = noVal := by
  cases o <;> simp [done] at e
  exact ⟨by rw [e.2], e.1.symm⟩

/-- what evOp says comes to be -/
def OpOk (P : Program) (only : Nat → Prop) (s : Sem Next) (ρ : Ren) (h : Heap) (w : World) (v : AVal) (h' : Heap) : Prop :=
  ∃ c ρ' w', Done P s w c w' ∧ Rel ρ' h' w' ∧ V ρ' w' v c ∧ Ext only ρ h w ρ' h' w'

omit hT in
theorem OpOk.val {only : Nat → Prop} (r : Rel ρ h w) {s : Sem Value} {v : AVal} (hs : ∃ c, s.run P w = .ok c w ∧ V ρ w v c) : OpOk P only (do pure (.value (← s))) ρ h w v h := by
  obtain ⟨c, h1, h2⟩ := hs
  exact ⟨c, ρ, w, .v h1, r, h2, Ext.refl _ _ _ _⟩

theorem evOp_ok {env : Tree AVal} {rid : Nat} {op : Op} {v : AVal} {h' : Heap} (e : evOp T env h rid op = some (v, h')) (r : Rel ρ h w) (hr : makes op = true → ρ rid = none ∧ rid < h.next)
    {evf : Operand → Value} (hE : ∀ x ∈ op.operands, ∀ a, ev env x = some a → V ρ w a (evf x)) (o : Oper) (ho : o.op = op) : OpOk P (· = rid) (execOp evf o) ρ h w v h' := by
  have mk : ∀ op', op' = op → makes op' = true → ∀ q, mkOp T env rid op' = q → made h rid q = some (v, h') → OpOk P (· = rid) (execOp evf o) ρ h w v h' := by
    intro op' hop hmk q hq hm
    cases q with
    | none => simp [made] at hm
    | some z =>
      obtain ⟨v', ob⟩ := z
      simp only [made, Option.some.injEq, Prod.mk.injEq] at hm
      obtain ⟨rfl, rfl⟩ := hm
      rw [hop] at hmk
      obtain ⟨hr1, hr2⟩ := hr hmk
      obtain ⟨c, d, k1, k2, k3⟩ := mkOp_ok hT hq (ρ := ρ) (w := w) (by rw [hop]; exact hE) o (by rw [ho, hop])
      obtain ⟨n1, n2, n3⟩ := r.new (w' := w.alloc c) hr1 hr2 rfl rfl rfl rfl k1
      exact ⟨d, _, _, .inl k2, n1, k3 _ n2.mono n3, n2⟩
  unfold evOp at e
  split at e
  · rename_i x
    obtain ⟨e1, rfl⟩ := withH_some e
    exact ⟨evf x, ρ, w, .inl (by simp [execOp, ho]), r, hE x (by simp [Op.operands]) _ e1, Ext.refl _ _ _ _⟩
  · rename_i x
    obtain ⟨e1, rfl⟩ := withH_some e
    exact ⟨evf x, ρ, w, .inl (by simp [execOp, ho]), r, hE x (by simp [Op.operands]) _ e1, Ext.refl _ _ _ _⟩
  · rename_i c a b
    split at e
    · rename_i hc
      obtain ⟨e1, rfl⟩ := withH_some e
      have vc := hE c (by simp [Op.operands]) _ hc
      generalize hcc : evf c = cc at vc
      cases vc
      exact ⟨evf a, ρ, w, .inl (by simp [execOp, ho, hcc, asBool]), r, hE a (by simp [Op.operands]) _ e1, Ext.refl _ _ _ _⟩
    · rename_i hc
      obtain ⟨e1, rfl⟩ := withH_some e
      have vc := hE c (by simp [Op.operands]) _ hc
      generalize hcc : evf c = cc at vc
      cases vc
      exact ⟨evf b, ρ, w, .inl (by simp [execOp, ho, hcc, asBool]), r, hE b (by simp [Op.operands]) _ e1, Ext.refl _ _ _ _⟩
    · cases e
  · exact mk _ rfl rfl _ rfl e
  · exact mk _ rfl rfl _ rfl e
  · rename_i t ps
    split at e
    · rename_i l hl
      obtain ⟨e1, rfl⟩ := withH_some e
      have hPL := pairs_ok hl (ρ := ρ) (w := w) (evf := evf) (fun p hp a ha => hE p.2 (by
        simp only [Op.operands]
        simp
        exact ⟨p.1, by simpa using hp⟩) a ha)
      obtain ⟨d, k1, k2⟩ := opBuild_ok hT e1 hPL
      have : execOp evf o = (do pure (.value (← Instr.build t ((ps.toList.map fun p => (p.1, evf p.2)).toArray)))) := by
        unfold execOp; rw [ho]
        simp only
        congr 2
        apply Array.ext'; simp
      rw [this]
      exact OpOk.val r ⟨d, k1, k2⟩
    · cases e
  · exact mk _ rfl rfl _ rfl e
  · rename_i t a
    split at e
    · rename_i va hva
      obtain ⟨e1, rfl⟩ := withH_some e
      obtain ⟨d, k1, k2, _⟩ := opLoad_ok hT e1 r (hE a (by simp [Op.operands]) _ hva)
      have : execOp evf o = (do pure (.value (← Instr.loadAt t (evf a)))) := by unfold execOp; rw [ho]
      rw [this]
      exact OpOk.val r ⟨d, k1, k2⟩
    · cases e
  · rename_i t a x
    split at e
    · rename_i pa px hpa hpx
      obtain ⟨e1, rfl⟩ := done_some e
      obtain ⟨w', k1, k2, k3⟩ := opStore_ok hT e1 r (hE a (by simp [Op.operands]) _ hpa) (hE x (by simp [Op.operands]) _ hpx)
      have : execOp evf o = (do Instr.storeAt t (evf a) (evf x); pure .skip) := by unfold execOp; rw [ho]
      rw [this]
      exact ⟨undef, ρ, w', .u k1, k2, noVal_ok _ _, k3.weaken (fun _ h => h.elim)⟩
    · cases e
  · rename_i x
    have hx := hE x (by simp [Op.operands])
    split at e
    · rename_i id off hv
      cases e
      have vc := hx _ hv
      generalize hcc : evf x = cc at vc
      cases vc with | ptr _ hb =>
      exact ⟨_, ρ, w, .inl (by simp [execOp, ho, hcc]), r, .ptr _ hb, Ext.refl _ _ _ _⟩
    · rename_i f a b hv
      cases e
      have vc := hx _ hv
      have vc' := vc
      generalize hcc : evf x = cc at vc vc'
      cases vc
      exact ⟨_, ρ, w, .inl (by simp [execOp, ho, hcc]), r, vc', Ext.refl _ _ _ _⟩
    · rename_i id hv
      cases e
      have vc := hx _ hv
      have vc' := vc
      generalize hcc : evf x = cc at vc vc'
      cases vc
      exact ⟨_, ρ, w, .inl (by simp [execOp, ho, hcc]), r, vc', Ext.refl _ _ _ _⟩
    · rename_i t vv hv
      cases e
      have vc := hx _ hv
      have vc' := vc
      generalize hcc : evf x = cc at vc vc'
      cases vc
      exact ⟨_, ρ, w, .inl (by simp [execOp, ho, hcc]), r, vc', Ext.refl _ _ _ _⟩
    · cases e
  · rename_i op' t x y t2
    split at e
    · rename_i a b ha hb
      obtain ⟨e1, rfl⟩ := withH_some e
      obtain ⟨d, k1, k2⟩ := opBin_ok hT e1 (hE x (by simp [Op.operands]) _ ha) (hE y (by simp [Op.operands]) _ hb) x y
      have : execOp evf o = (do pure (.value (← (do eqGuard op' t x y (evf x) (evf y); binOp op' t (evf x) (evf y))))) := by unfold execOp; rw [ho]
      rw [this]
      exact OpOk.val r ⟨d, k1, k2⟩
    · cases e
  · rename_i op' t x
    split at e
    · rename_i a ha
      obtain ⟨e1, rfl⟩ := withH_some e
      obtain ⟨d, k1, k2⟩ := opUn_ok (P := P) e1 (hE x (by simp [Op.operands]) _ ha)
      have : execOp evf o = (do pure (.value (← Op.unary op' (evf x)))) := by unfold execOp; rw [ho]
      rw [this]
      exact OpOk.val r ⟨d, k1, k2⟩
    · cases e
  · rename_i s d x
    split at e
    · rename_i a ha
      obtain ⟨ρ', w', q, k1, k2, k3, k4⟩ := opConvert_ok hT e r (hr rfl) (hE x (by simp [Op.operands]) _ ha)
      have : execOp evf o = (do pure (.value (← convert s d (evf x)))) := by unfold execOp; rw [ho]
      rw [this]
      exact ⟨q, ρ', w', .v k1, k2, k3, k4⟩
    · cases e
  · rename_i t x
    split at e
    · cases e
    · rename_i a d hni ha hu
      cases e
      have vc := hE x (by simp [Op.operands]) _ ha
      have : execOp evf o = (do pure (.value (← Instr.makeInterface t (evf x)))) := by unfold execOp; rw [ho]
      rw [this]
      refine OpOk.val r ⟨.iface t (evf x), ?_, .ifc _ _ _ vc⟩
      cases d <;> first | exact absurd rfl (hni _) | simp [Instr.makeInterface, run_underlying (und_ok hT hu)]
    · cases e
  · rename_i f a c
    split at e
    · rename_i l m hl hm
      cases e
      have v1 := evs_ok hl (ρ := ρ) (w := w) (evf := evf) (fun x hx a ha => hE x (by simp [Op.operands]; exact .inl (by simpa using hx)) a ha)
      have v2 := evs_ok hm (ρ := ρ) (w := w) (evf := evf) (fun x hx a ha => hE x (by simp [Op.operands]; exact .inr (by simpa using hx)) a ha)
      refine ⟨.func (.func f) (a.toList.map evf).toArray (c.toList.map evf).toArray, ρ, w, .inl ?_, r, .fn f _ _ _ _ v1.1 v1.2 v2.1 v2.2, Ext.refl _ _ _ _⟩
      have q1 : (a.toList.map evf).toArray = a.map evf := by apply Array.ext'; simp
      have q2 : (c.toList.map evf).toArray = c.map evf := by apply Array.ext'; simp
      rw [q1, q2]
      simp [execOp, ho, Instr.makeFunc]
    · cases e
  · exact mk _ rfl rfl _ rfl e
  · exact mk _ rfl rfl _ rfl e
  · rename_i t x lo hi mx
    split at e
    · rename_i va vb vc vd h1 h2 h3 h4
      obtain ⟨e1, rfl⟩ := withH_some e
      have o2 := oev_ok h2 (ρ := ρ) (w := w) (evf := evf) (fun y hy a ha => hE y (by simp [Op.operands, hy]) a ha)
      have o3 := oev_ok h3 (ρ := ρ) (w := w) (evf := evf) (fun y hy a ha => hE y (by simp [Op.operands, hy]) a ha)
      have o4 := oev_ok h4 (ρ := ρ) (w := w) (evf := evf) (fun y hy a ha => hE y (by simp [Op.operands, hy]) a ha)
      obtain ⟨d, k1, k2⟩ := opSlice_ok hT e1 r (hE x (by simp [Op.operands]) _ h1) o2 o3 o4
      have : execOp evf o = (do pure (.value (← Instr.sliceAt t (evf x) (lo.map evf) (hi.map evf) (mx.map evf)))) := by unfold execOp; rw [ho]
      rw [this]
      exact OpOk.val r ⟨d, k1, k2⟩
    · cases e
  · rename_i s x f
    split at e
    · rename_i a ha
      obtain ⟨e1, rfl⟩ := withH_some e
      have : execOp evf o = (do pure (.value (← Instr.fieldAt s (evf x) f))) := by unfold execOp; rw [ho]
      rw [this]
      exact OpOk.val r (opFieldAddr_ok hT e1 (hE x (by simp [Op.operands]) _ ha))
    · cases e
  · rename_i s x f
    split at e
    · rename_i a ha
      obtain ⟨e1, rfl⟩ := withH_some e
      have : execOp evf o = (do pure (.value (← Instr.field s (evf x) f))) := by unfold execOp; rw [ho]
      rw [this]
      exact OpOk.val r (opField_ok hT e1 (hE x (by simp [Op.operands]) _ ha))
    · cases e
  · rename_i t x i
    split at e
    · rename_i a b ha hb
      obtain ⟨e1, rfl⟩ := withH_some e
      have : execOp evf o = (do pure (.value (← Instr.indexAt t (evf x) (evf i)))) := by unfold execOp; rw [ho]
      rw [this]
      exact OpOk.val r (opIndexAddr_ok hT e1 (hE x (by simp [Op.operands]) _ ha) (hE i (by simp [Op.operands]) _ hb))
    · cases e
  · rename_i t x i
    split at e
    · rename_i a b ha hb
      obtain ⟨e1, rfl⟩ := withH_some e
      have : execOp evf o = (do pure (.value (← Instr.index t (evf x) (evf i)))) := by unfold execOp; rw [ho]
      rw [this]
      exact OpOk.val r (opIndex_ok hT e1 (hE x (by simp [Op.operands]) _ ha) (hE i (by simp [Op.operands]) _ hb))
    · cases e
  · rename_i t m k ok
    split at e
    · rename_i a b ha hb
      obtain ⟨e1, rfl⟩ := withH_some e
      have : execOp evf o = (do pure (.value (← Instr.lookup t (evf m) (evf k) ok))) := by unfold execOp; rw [ho]
      rw [this]
      exact OpOk.val r (opLookup_ok hT e1 r (hE m (by simp [Op.operands]) _ ha) (hE k (by simp [Op.operands]) _ hb))
    · cases e
  · rename_i t m k x
    split at e
    · rename_i a b c ha hb hc
      obtain ⟨e1, rfl⟩ := done_some e
      obtain ⟨w', k1, k2, k3⟩ := opMapUpdate_ok hT e1 r (hE m (by simp [Op.operands]) _ ha) (hE k (by simp [Op.operands]) _ hb) (hE x (by simp [Op.operands]) _ hc)
      have : execOp evf o = (do Instr.mapUpdate t (evf m) (evf k) (evf x); pure .skip) := by unfold execOp; rw [ho]
      rw [this]
      exact ⟨undef, ρ, w', .u k1, k2, noVal_ok _ _, k3.weaken (fun _ h => h.elim)⟩
    · cases e
  · rename_i t m
    split at e
    · rename_i a ha
      obtain ⟨ρ', w', q, k1, k2, k3, k4⟩ := opRange_ok hT e r (hr rfl) (hE m (by simp [Op.operands]) _ ha)
      have : execOp evf o = (do pure (.value (← Instr.range t (evf m)))) := by unfold execOp; rw [ho]
      rw [this]
      exact ⟨q, ρ', w', .v k1, k2, k3, k4⟩
    · cases e
  · rename_i it
    split at e
    · rename_i a ha
      obtain ⟨w', q, k1, k2, k3, k4⟩ := opNext_ok (P := P) e r (hE it (by simp [Op.operands]) _ ha) o.type
      have : execOp evf o = (do pure (.value (← Instr.next (evf it) false o.type))) := by unfold execOp; rw [ho]
      rw [this]
      exact ⟨q, ρ, w', .v k1, k2, k3, k4.weaken (fun _ h => h.elim)⟩
    · cases e
  · rename_i t i
    split at e
    · rename_i l hl
      obtain ⟨e1, rfl⟩ := withH_some e
      have vc := hE t (by simp [Op.operands]) _ hl
      generalize hcc : evf t = cc at vc
      cases vc with | tup _ cs hlen hcs =>
      rw [nth_eq] at e1
      obtain ⟨c, q1, q2⟩ := VL.get ⟨hlen, hcs⟩ e1
      have : execOp evf o = (do pure (.value (← Instr.extract (evf t) i))) := by unfold execOp; rw [ho]
      rw [this, hcc]
      exact OpOk.val r ⟨c, by simp [Instr.extract, q1], q2⟩
    · cases e
  · rename_i b args ats
    split at e
    · rename_i l hl
      have v1 := evs_ok hl (ρ := ρ) (w := w) (evf := evf) (fun x hx a ha => hE x (by simp only [Op.operands, Call.operands]; simpa using hx) a ha)
      obtain ⟨c, ρ', w', k1, k2, k3, k4⟩ := evBuiltin_ok hT e r (fun hb => hr (by rw [hb]; rfl)) v1 o.type (args.map fun | .const _ => true | _ => false)
      refine ⟨c, ρ', w', .inl ?_, k2, k3, k4⟩
      have : execOp evf o = builtin b ats.toList.toArray o.type (args.map fun | .const _ => true | _ => false) (args.toList.map evf).toArray := by
        unfold execOp; rw [ho]
        simp only [resolve, pure_bind, invoke]
        congr 1
        apply Array.ext'; simp
      rw [this]; exact k1
    · cases e
  · cases e

end
end Cv
