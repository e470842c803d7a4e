/-
  An evaluator over abstract values, of use to every statement of this seat: operations in turn and in a drawn order are as the machine does them. No condition.
-/
import Derived.Test.YtacnglmacfhgbaaGreatCv4
import Derived.Orders

/- Soundness: steps of the machine; one operation with calls; operations one behind the other. -/
set_option linter.unusedVariables false
set_option linter.unusedSimpArgs false
namespace Cv
open Go

/-- a frame of a function, or of a round of a loop over one -/
def fr (b : Frame) (tmps : Array Value) (df : List Deferred) (todo : List Item) : Frame := { b with tmps := tmps, defers := df, todo := todo, mode := .run }

section moves
variable {P : Program} {b : Frame} {t : Array Value} {d : List Deferred} {k : List Item} {cs : List Frame} {w : World}

theorem fs_skip : step P (lone (fr b t d (.code .skip :: k)) cs w) = .next (lone (fr b t d k) cs w) := step_lone_go (by simp [stepG, stepG.exec, fr])
theorem fs_inBlock {id : Nat} : step P (lone (fr b t d (.inBlock id :: k)) cs w) = .next (lone (fr b t d k) cs w) := step_lone_go (by simp [stepG, stepG.exec, fr])
theorem fs_inScope {c : Code} : step P (lone (fr b t d (.inScope c :: k)) cs w) = .next (lone (fr b t d k) cs w) := step_lone_go (by simp [stepG, stepG.exec, fr])
theorem fs_seq {x y : Code} : step P (lone (fr b t d (.code (.seq x y) :: k)) cs w) = .next (lone (fr b t d (.code x :: .code y :: k)) cs w) := step_lone_go (by simp [stepG, stepG.exec, fr])
theorem fs_cond {c : Operand} {x y : Code} {v : Bool} (h : (fr b t d (.code (.cond c x y) :: k)).eval c = .bool v) :
    step P (lone (fr b t d (.code (.cond c x y) :: k)) cs w) = .next (lone (fr b t d (.code (if v then x else y) :: k)) cs w) :=
  step_lone_go (by
    have h' := h
    simp only [fr] at h'
    simp [stepG, stepG.exec, fr, h'])
theorem fs_block {id : Nat} {c : Code} : step P (lone (fr b t d (.code (.block id c) :: k)) cs w) = .next (lone (fr b t d (.code c :: .inBlock id :: k)) cs w) := step_lone_go (by simp [stepG, stepG.exec, fr])
theorem fs_loop {c : Code} : step P (lone (fr b t d (.code (.loop c) :: k)) cs w) = .next (lone (fr b t d (.code c :: .inLoop c :: k)) cs w) := step_lone_go (by simp [stepG, stepG.exec, fr])
theorem fs_inLoop {c : Code} : step P (lone (fr b t d (.inLoop c :: k)) cs w) = .next (lone (fr b t d (.code c :: .inLoop c :: k)) cs w) := step_lone_go (by simp [stepG, stepG.exec, fr])
theorem fs_scope {c : Code} : step P (lone (fr b t d (.code (.scope c) :: k)) cs w) = .next (lone (fr b t d (.code c :: .inScope c :: k)) cs w) := step_lone_go (by simp [stepG, stepG.exec, fr])
theorem fs_exit {id : Nat} {k' : List Item} (h : exitTo id k = some k') : step P (lone (fr b t d (.code (.exit id) :: k)) cs w) = .next (lone (fr b t d k') cs w) := step_lone_go (by simp [stepG, stepG.exec, fr, h])
theorem fs_region {id : Nat} {ops : Array Oper} : step P (lone (fr b t d (.code (.region id ops false) :: k)) cs w) = .next (lone (fr b t d (.inRegion ops (List.range ops.size) :: k)) cs w) := step_lone_go (by simp [stepG, stepG.exec, fr])
theorem fs_region_end {ops : Array Oper} : step P (lone (fr b t d (.inRegion ops [] :: k)) cs w) = .next (lone (fr b t d k) cs w) := step_lone_go (by simp [stepG, stepG.exec, fr])
theorem fs_draw {id : Nat} {ops : Array Oper} :
    step P (lone (fr b t d (.code (.region id ops true) :: k)) cs w) = .next (lone (fr b t d (.inRegion ops (Region.schedule (P.follows .mixedOrders) ops (w.tape w.drawn (.order b.fn id))) :: k)) cs { w with drawn := w.drawn + 1 }) :=
  step_lone_go (by simp [stepG, stepG.exec, fr, choose, Sem.run, Question.forced, Question.cut])

/-- the slot written -/
def putC (t : Array Value) (dst : Option Tmp) (v : Value) : Array Value := match dst with | some d => t.setIfInBounds d v | none => t

theorem fr_finish {ops : Array Oper} {i : Nat} {rest : List Nat} {o : Oper} (ho : ops[i]? = some o) (v : Value) :
    (fr b t d (.inRegion ops (i :: rest) :: k)).finish v = fr b (putC t o.dst v) d (.inRegion ops rest :: k) := by
  cases h : o.dst <;> simp [Frame.finish, fr, ho, h, putC]

theorem fs_op_skip {ops : Array Oper} {i : Nat} {rest : List Nat} {o : Oper} (ho : ops[i]? = some o) (h : Region.wanted o (yielded ops t) = false) :
    step P (lone (fr b t d (.inRegion ops (i :: rest) :: k)) cs w) = .next (lone (fr b (putC t o.dst undef) d (.inRegion ops rest :: k)) cs w) := by
  rw [← fr_finish ho]
  exact step_lone_go (by simp [stepG, stepG.exec, fr, ho, h])

theorem stepG_op' {ops : Array Oper} {i : Nat} {rest : List Nat} {o : Oper} (ho : ops[i]? = some o) (hw : Region.wanted o (yielded ops t) = true) (hnd : ∀ c, o.op ≠ .defer c) :
    stepG P true { frame := fr b t d (.inRegion ops (i :: rest) :: k), callers := cs, status := .running, dying := none } w =
      stepG.apply P true (fr b t d (.inRegion ops (i :: rest) :: k)) cs none (execOp (fr b t d (.inRegion ops (i :: rest) :: k)).eval o) w := by
  simp only [stepG, stepG.exec, fr, ho, hw, Option.map_some, Option.getD_some, if_true, stepG.oper, Frame.oper?]
  cases hop : o.op <;> first | exact absurd hop (hnd _) | (cases b.roundOf <;> rfl)

theorem fs_value {ops : Array Oper} {i : Nat} {rest : List Nat} {o : Oper} (ho : ops[i]? = some o) (hw : Region.wanted o (yielded ops t) = true) (hnd : ∀ c, o.op ≠ .defer c) {v : Value} {w' : World}
    (hr : Done P (execOp (fr b t d (.inRegion ops (i :: rest) :: k)).eval o) w v w') :
    step P (lone (fr b t d (.inRegion ops (i :: rest) :: k)) cs w) = .next (lone ((fr b t d (.inRegion ops (i :: rest) :: k)).finish v) cs w') := by
  refine step_lone_go ?_
  rw [stepG_op' ho hw hnd]
  rcases hr with hr | ⟨hr, rfl⟩
  · simp [stepG.apply, hr]
  · simp [stepG.apply, hr]

theorem fs_enter {ops : Array Oper} {i : Nat} {rest : List Nat} {o : Oper} (ho : ops[i]? = some o) (hw : Region.wanted o (yielded ops t) = true) (hnd : ∀ c, o.op ≠ .defer c) {f : FuncId} {args : Array Value} {w' : World}
    (hr : (execOp (fr b t d (.inRegion ops (i :: rest) :: k)).eval o).run P w = .ok (.enter f args) w') :
    step P (lone (fr b t d (.inRegion ops (i :: rest) :: k)) cs w) = .next (lone (Frame.enter P f args .normal) (fr b t d (.inRegion ops (i :: rest) :: k) :: cs) w') := by
  refine step_lone_go ?_
  rw [stepG_op' ho hw hnd]
  simp only [stepG.apply, Sem.runT_eq, hr, if_true, GStep.bare_after]
  simp [fr]

theorem fs_round {ops : Array Oper} {i : Nat} {rest : List Nat} {o : Oper} (ho : ops[i]? = some o) (hw : Region.wanted o (yielded ops t) = true) (hnd : ∀ c, o.op ≠ .defer c) {l : Nat} {f : FuncId} {tmps : Array Value} {as_ bo : Code} {w' : World}
    (hr : (execOp (fr b t d (.inRegion ops (i :: rest) :: k)).eval o).run P w = .ok (.round l f tmps as_ bo) w') :
    step P (lone (fr b t d (.inRegion ops (i :: rest) :: k)) cs w) = .next (lone (Frame.round l f tmps as_ bo .normal) (fr b t d (.inRegion ops (i :: rest) :: k) :: cs) w') := by
  refine step_lone_go ?_
  rw [stepG_op' ho hw hnd]
  simp only [stepG.apply, Sem.runT_eq, hr, if_true, GStep.bare_after]
  simp

end moves

/-- what a call comes to, by what it returns to -/
def RecOk (P : Program) (rec : Rec) : Prop :=
  ∀ who args h v h', rec who args h = some (v, h') → ∀ ρ w cargs, Rel ρ h w → VL ρ w args cargs →
    match who with
    | .fn f => (∃ fn, P.funcs[f]? = some fn ∧ fn.body.isSome = true) ∧ ∀ c cs, ∃ ρ' w' cv, Steps P (lone (Frame.enter P f cargs.toArray .normal) (c :: cs) w) (lone (c.finish cv) cs w') ∧ Rel ρ' h' w' ∧ V ρ' w' v cv ∧ Ext (fun _ => False) ρ h w ρ' h' w'
    | .yld id => ∀ b, ρ id = some b → ∃ f tmps as_ bo, (Instr.yield b cargs.toArray).run P w = .ok (.round b f tmps as_ bo) w ∧
        ∀ c cs, ∃ ρ' w' cv, Steps P (lone (Frame.round b f tmps as_ bo .normal) (c :: cs) w) (lone (c.finish cv) cs w') ∧ Rel ρ' h' w' ∧ V ρ' w' v cv ∧ Ext (fun _ => False) ρ h w ρ' h' w'

theorem ev_ok {ρ : Ren} {w : World} {env : Tree AVal} {n : Nat} {t : Array Value} (he : ER ρ w env n t) (F : Frame) (hF : F.tmps = t) {x : Operand} {a : AVal} (e : ev env x = some a) : V ρ w a (F.eval x) := by
  unfold ev at e
  split at e
  · obtain ⟨c, h1, h2⟩ := he.2 _ _ e
    simp only [Frame.eval, hF, Array.getD_eq_getD_getElem?, h1, Option.getD_some]
    exact h2
  · exact ofConst_ok e ρ w
  · cases e; exact .fn _ [] [] [] [] rfl (by simp) rfl (by simp)
  · cases e

section
variable {T : Tab} {P : Program} (hT : TabOk T P) {rec : Rec} (hrec : RecOk P rec) {ρ : Ren} {h : Heap} {w : World}
include hT hrec

omit hrec in
theorem run_callFunc (f : FuncId) {fn : Func} (hf : P.funcs[f]? = some fn) (hb : fn.body.isSome = true) (args : Array Value) : (callFunc f args).run P w = .ok (.enter f args) w := by
  have hn := hT.nm f fn hf
  have hn2 : fn.name ≠ "runtime.NumGoroutine" := by simpa using hn
  have hb2 : fn.body ≠ none := fun hx => by rw [hx] at hb; cases hb
  simp [callFunc, hf, hn2, hb2]

/-- one operation, calls too -/
theorem doOp_ok {env : Tree AVal} {rid : Nat} {op : Op} {v : AVal} {h' : Heap} (e : doOp T rec env h rid op = some (v, h')) (r : Rel ρ h w) (hr : makes op = true → ρ rid = none ∧ rid < h.next)
    {b : Frame} {t : Array Value} {d : List Deferred} {k : List Item} {ops : Array Oper} {i : Nat} {rest : List Nat} {o : Oper} (hoi : ops[i]? = some o) (ho : o.op = op) (hw : Region.wanted o (yielded ops t) = true)
    (hE : ∀ x ∈ op.operands, ∀ a, ev env x = some a → V ρ w a ((fr b t d (.inRegion ops (i :: rest) :: k)).eval x)) (cs : List Frame) :
    ∃ c ρ' w', Steps P (lone (fr b t d (.inRegion ops (i :: rest) :: k)) cs w) (lone (fr b (putC t o.dst c) d (.inRegion ops rest :: k)) cs w') ∧ Rel ρ' h' w' ∧ V ρ' w' v c ∧ Ext (· = rid) ρ h w ρ' h' w' := by
  unfold doOp at e
  split at e
  · rename_i f args ats
    split at e
    · rename_i vf l hf hl
      split at e
      · rename_i who l' hcal
        have vF := hE f (by simp [Op.operands, Call.operands]) _ hf
        have vL := evs_ok hl (ρ := ρ) (w := w) (evf := (fr b t d (.inRegion ops (i :: rest) :: k)).eval) (fun x hx a ha => hE x (by simp only [Op.operands, Call.operands]; simp; exact .inr (by simpa using hx)) a ha)
        have hnd : ∀ c, o.op ≠ .defer c := fun c hc => by rw [ho] at hc; cases hc
        generalize hvf : (fr b t d (.inRegion ops (i :: rest) :: k)).eval f = cf at vF
        have hargs : args.map (fr b t d (.inRegion ops (i :: rest) :: k)).eval = (args.toList.map (fr b t d (.inRegion ops (i :: rest) :: k)).eval).toArray := by apply Array.ext'; simp
        unfold calleeOf at hcal
        split at hcal
        · rename_i g first cap
          cases hcal
          cases vF with | fn _ _ _ ca cb hx hxs hy hys =>
          have v1 : VL ρ w (first ++ l ++ cap) (ca ++ args.toList.map (fr b t d (.inRegion ops (i :: rest) :: k)).eval ++ cb) := ((VL.append ⟨hx, hxs⟩ vL).append ⟨hy, hys⟩)
          have hR := hrec _ _ _ _ _ e ρ w _ r v1
          obtain ⟨⟨fn, hfn, hbody⟩, hgo⟩ := hR
          have hrun : (execOp (fr b t d (.inRegion ops (i :: rest) :: k)).eval o).run P w = .ok (.enter g (ca ++ args.toList.map (fr b t d (.inRegion ops (i :: rest) :: k)).eval ++ cb).toArray) w := by
            have : execOp (fr b t d (.inRegion ops (i :: rest) :: k)).eval o = callFunc g (ca.toArray ++ args.map (fr b t d (.inRegion ops (i :: rest) :: k)).eval ++ cb.toArray) := by
              unfold execOp; rw [ho]
              simp only [resolve, hvf, Deferred.ofValue, pure_bind, invoke]
            rw [this, run_callFunc hT g hfn hbody, hargs]
            simp
          obtain ⟨ρ', w', cv, s1, s2, s3, s4⟩ := hgo (fr b t d (.inRegion ops (i :: rest) :: k)) cs
          rw [fr_finish hoi] at s1
          exact ⟨cv, ρ', w', .head (fs_enter hoi hw hnd hrun) s1, s2, s3, s4.weaken (fun _ h => h.elim)⟩
        · rename_i id
          cases hcal
          cases vF with | yld hb =>
          rename_i bb
          have hR := hrec _ _ _ _ _ e ρ w _ r vL
          obtain ⟨f', tm, as_, bo, hy, hgo⟩ := hR _ hb
          have hrun : (execOp (fr b t d (.inRegion ops (i :: rest) :: k)).eval o).run P w = .ok (.round bb f' tm as_ bo) w := by
            have : execOp (fr b t d (.inRegion ops (i :: rest) :: k)).eval o = Instr.yield bb (args.map (fr b t d (.inRegion ops (i :: rest) :: k)).eval) := by
              unfold execOp; rw [ho]
              simp only [resolve, hvf, Deferred.ofValue, pure_bind, invoke]
              simp
            rw [this, hargs, hy]
          obtain ⟨ρ', w', cv, s1, s2, s3, s4⟩ := hgo (fr b t d (.inRegion ops (i :: rest) :: k)) cs
          rw [fr_finish hoi] at s1
          exact ⟨cv, ρ', w', .head (fs_round hoi hw hnd hrun) s1, s2, s3, s4.weaken (fun _ h => h.elim)⟩
        · cases hcal
      · cases e
    · cases e
  · have hnd : ∀ c, o.op ≠ .defer c := fun c hc => by
      rw [ho] at hc; subst hc
      simp [evOp] at e
    obtain ⟨c, ρ', w', s1, s2, s3, s4⟩ := evOp_ok hT e r hr hE o ho
    refine ⟨c, ρ', w', .one ?_, s2, s3, s4⟩
    rw [← fr_finish hoi]
    exact fs_value hoi hw hnd s1

omit hT hrec in
theorem ER.put {env env' : Tree AVal} {n : Nat} {t : Array Value} (he : ER ρ w env n t) {dst : Option Tmp} {v : AVal} {c : Value} (hv : V ρ w v c) (e : putA env n dst v = some env') : ER ρ w env' n (putC t dst c) := by
  unfold putA at e
  split at e
  · cases e; exact he
  · rename_i d
    split at e
    · rename_i hd
      have hd := blt_lt hd
      cases e
      refine ⟨by simp [putC, he.1], fun i x hx => ?_⟩
      rcases Tree.get_set hx with ⟨e1, e2⟩ | ⟨e1, e2⟩
      · subst e1; subst e2
        exact ⟨c, by simp only [putC]; rw [Array.getElem?_setIfInBounds, if_pos rfl, if_pos (by rw [he.1]; exact hd)], hv⟩
      · obtain ⟨c', h1, h2⟩ := he.2 _ _ e2
        exact ⟨c', by simp only [putC]; rw [Array.getElem?_setIfInBounds, if_neg (fun e => e1 e.symm)]; exact h1, h2⟩
    · cases e

omit hT hrec in
theorem wantedA_ok {env : Tree AVal} {n : Nat} {t : Array Value} {ops : Array Oper} {o : Oper} {q : Bool} (e : wantedA env ops.toList o = some q) (hg : ∀ d x, env.get d = some x → (∃ j w, o.guard = some (j, w) ∧ ∃ g, ops[j]? = some g ∧ g.dst = some d) → ∃ c, t[d]? = some c ∧ V ρ w x c) :
    Region.wanted o (yielded ops t) = q := by
  unfold wantedA at e
  unfold Region.wanted
  split at e
  · rename_i hgd; cases e; rw [hgd]
  · rename_i j want hgd
    rw [hgd]
    rw [nth_eq] at e
    split at e
    · cases e
    · rename_i g hgj
      have hgj' : ops[j]? = some g := by simpa using hgj
      split at e
      · cases e
      · rename_i d hd
        split at e
        · rename_i bb hb
          cases e
          obtain ⟨c, h1, h2⟩ := hg d _ hb ⟨j, want, hgd, g, hgj', hd⟩
          cases h2
          simp [yielded, hgj', hd, h1]
        · rename_i x hnb hx
          cases e
          obtain ⟨c, h1, h2⟩ := hg d _ hx ⟨j, want, hgd, g, hgj', hd⟩
          have : yielded ops t j = none := by
            simp only [yielded, hgj', Option.bind_some, hd, h1]
            cases h2 <;> first | rfl | (rename_i b; exact absurd rfl (hnb b))
          simp [this]
        · cases e

omit hT hrec in
theorem evBuiltin_rid {b : Builtin} (hb : b ≠ .append) (rid rid' : Nat) (ts : List TypeId) (l : List AVal) : evBuiltin T h rid b ts l = evBuiltin T h rid' b ts l := by
  rcases ts with _ | ⟨t, _ | ⟨t2, _ | ⟨t3, ts⟩⟩⟩ <;> rcases l with _ | ⟨x, _ | ⟨y, _ | ⟨z, l⟩⟩⟩ <;> cases b <;> first | rfl | exact absurd rfl hb

omit hT hrec in
theorem doOp_rid {env : Tree AVal} {op : Op} (hm : makes op = false) (rid rid' : Nat) : doOp T rec env h rid op = doOp T rec env h rid' op := by
  cases op with
  | call c =>
    obtain ⟨callee, args, ats⟩ := c
    cases callee with
    | builtin b =>
      have hb : b ≠ .append := fun e => by subst e; simp [makes] at hm
      simp only [doOp, evOp]
      cases evs env args.toList with
      | none => rfl
      | some l => exact evBuiltin_rid hb rid rid' _ l
    | _ => rfl
  | makeFunc fn a b => cases fn <;> rfl
  | next it b => cases b <;> rfl
  | _ => first | (simp [makes] at hm; done) | rfl

/-- operations, one behind the other -/
theorem doOps_ok {n : Nat} {ops : Array Oper} {b : Frame} {d : List Deferred} {k : List Item} (cs : List Frame) : ∀ (os : List Oper) (i : Nat) (env : Tree AVal) (h : Heap) (env' : Tree AVal) (h' : Heap) (ρ : Ren) (w : World) (t : Array Value),
    doOps T rec n ops.toList os env h = some (env', h') → os = ops.toList.drop i → Rel ρ h w → ER ρ w env n t →
    ∃ ρ' w' t', Steps P (lone (fr b t d (.inRegion ops (List.range' i os.length) :: k)) cs w) (lone (fr b t' d k) cs w') ∧ Rel ρ' h' w' ∧ ER ρ' w' env' n t' ∧ Ext (fun _ => False) ρ h w ρ' h' w'
  | [], i, env, h, env', h', ρ, w, t, e, hos, r, he => by
    simp only [doOps, Option.some.injEq, Prod.mk.injEq] at e
    obtain ⟨rfl, rfl⟩ := e
    exact ⟨ρ, w, t, .one fs_region_end, r, he, Ext.refl _ _ _ _⟩
  | o :: os, i, env, h, env', h', ρ, w, t, e, hos, r, he => by
    have hoi : ops[i]? = some o := by
      have : (ops.toList.drop i)[0]? = some o := by rw [← hos]; rfl
      simpa using this
    have hos' : os = ops.toList.drop (i + 1) := by
      have : (o :: os).tail = (ops.toList.drop i).tail := by rw [hos]
      simpa using this
    have hrange : List.range' i (o :: os).length = i :: List.range' (i + 1) os.length := by simp [List.range'_succ]
    rw [hrange]
    have hg : ∀ d x, env.get d = some x → (∃ j w, o.guard = some (j, w) ∧ ∃ g, ops[j]? = some g ∧ g.dst = some d) → ∃ c, t[d]? = some c ∧ V ρ w x c := fun d x hx _ => he.2 d x hx
    simp only [doOps] at e
    split at e
    · cases e
    · rename_i hwant
      have hw := wantedA_ok (n := n) hwant hg
      split at e
      · rename_i env1 hput
        have he1 := he.put (noVal_ok ρ w) hput
        obtain ⟨ρ', w', t', s1, s2, s3, s4⟩ := doOps_ok cs os (i + 1) env1 h env' h' ρ w _ e hos' r he1
        exact ⟨ρ', w', t', .head (fs_op_skip hoi hw) s1, s2, s3, s4⟩
      · cases e
    · rename_i hwant
      have hw := wantedA_ok (n := n) hwant hg
      split at e
      · rename_i hmk
        split at e
        · rename_i v h1 hdo
          split at e
          · rename_i env1 hput
            have r0 : Rel ρ ⟨h.t, Nat.succ h.next⟩ w := r.bump 1
            have hE : ∀ x ∈ o.op.operands, ∀ a, ev env x = some a → V ρ w a ((fr b t d (.inRegion ops (i :: List.range' (i + 1) os.length) :: k)).eval x) := fun x _ a ha => ev_ok he _ rfl ha
            obtain ⟨c, ρ1, w1, s1, s2, s3, s4⟩ := doOp_ok hT hrec hdo r0 (fun _ => ⟨r.fresh _ (Nat.le_refl _), Nat.lt_succ_self _⟩) hoi rfl hw hE cs
            have he1 := (he.mono s4.grow).put s3 hput
            obtain ⟨ρ', w', t', q1, q2, q3, q4⟩ := doOps_ok cs os (i + 1) env1 h1 env' h' ρ1 w1 _ e hos' s2 he1
            refine ⟨ρ', w', t', .trans s1 q1, q2, q3, ?_⟩
            have s5 : Ext (fun _ => False) ρ h w ρ1 h1 w1 :=
              { s4 with
                new := fun id bb hb => (s4.new id bb hb).imp (fun z => z) fun ⟨x, y⟩ => ⟨.inr (x.elim (fun z => by rw [z]; exact Nat.le_refl _) (fun z => Nat.le_of_succ_le z)), y⟩
                next := Nat.le_of_succ_le s4.next }
            exact s5.trans q4
          · cases e
        · cases e
      · rename_i hmk
        split at e
        · rename_i v h1 hdo
          split at e
          · rename_i env1 hput
            have hE : ∀ x ∈ o.op.operands, ∀ a, ev env x = some a → V ρ w a ((fr b t d (.inRegion ops (i :: List.range' (i + 1) os.length) :: k)).eval x) := fun x _ a ha => ev_ok he _ rfl ha
            rw [doOp_rid hmk 0 h.next] at hdo
            obtain ⟨c, ρ1, w1, s1, s2, s3, s4⟩ := doOp_ok hT hrec hdo r (fun hm => by rw [hmk] at hm; cases hm) hoi rfl hw hE cs
            have he1 := (he.mono s4.grow).put s3 hput
            obtain ⟨ρ', w', t', q1, q2, q3, q4⟩ := doOps_ok cs os (i + 1) env1 h1 env' h' ρ1 w1 _ e hos' s2 he1
            refine ⟨ρ', w', t', .trans s1 q1, q2, q3, ?_⟩
            exact (s4.weaken (fun id hid => .inr (by rw [hid]; exact Nat.le_refl _))).trans q4
          · cases e
        · cases e

end
end Cv

/- Soundness: regions that draw their order. -/
set_option linter.unusedVariables false
set_option linter.unusedSimpArgs false
namespace Cv
open Go

/-! ### Masks -/

noncomputable def msk (acc : List Nat) (o : Oper) : Nat :=
  o.after.toList.foldl (fun s e => match Region.binds .any e with | true => s ||| 2 ^ e.on ||| ((nth acc (Nat.sub (Nat.pred acc.length) e.on)).getD 0) | false => s) 0

theorem masks_spec : ∀ (os : List Oper) (acc : List Nat), ∃ l, masks os acc = acc.reverse ++ l ∧ l.length = os.length ∧ ∀ (i : Nat) (o : Oper), os[i]? = some o → l[i]? = some (msk ((acc.reverse ++ l.take i).reverse) o)
  | [], acc => ⟨[], by simp [masks], rfl, by simp⟩
  | o :: os, acc => by
    obtain ⟨l, h1, h2, h3⟩ := masks_spec os (msk acc o :: acc)
    refine ⟨msk acc o :: l, ?_, by simp [h2], fun i x hx => ?_⟩
    · show masks os (msk acc o :: acc) = _
      rw [h1]; simp
    · cases i with
      | zero => simp at hx; subst hx; simp
      | succ i =>
        have := h3 i x (by simpa using hx)
        simpa using this

theorem fold_bit (acc : List Nat) (j : Nat) : ∀ (l : List Edge) (s : Nat), (l.foldl (fun s e => match Region.binds .any e with | true => s ||| 2 ^ e.on ||| ((nth acc (Nat.sub (Nat.pred acc.length) e.on)).getD 0) | false => s) s).testBit j = true →
    s.testBit j = true ∨ ∃ e ∈ l, Region.binds .any e = true ∧ (j = e.on ∨ ((nth acc (Nat.sub (Nat.pred acc.length) e.on)).getD 0).testBit j = true)
  | [], s, h => .inl h
  | e :: l, s, h => by
    simp only [List.foldl_cons] at h
    rcases fold_bit acc j l _ h with h1 | ⟨e', he', h1⟩
    · split at h1
      · rename_i hb
        simp only [Nat.testBit_or, Bool.or_eq_true] at h1
        rcases h1 with (h1 | h1) | h1
        · exact .inl h1
        · rw [Nat.testBit_two_pow] at h1
          exact .inr ⟨e, by simp, hb, .inl (by simpa using (of_decide_eq_true h1).symm)⟩
        · exact .inr ⟨e, by simp, hb, .inr h1⟩
      · exact .inl h1
    · exact .inr ⟨e', by simp [he'], h1⟩

/-- the mask of an operation -/
noncomputable def mk (L : List Oper) (i : Nat) : Nat := (nth (masks L []) i).getD 0

theorem mask_bit {L : List Oper} {i j : Nat} {o : Oper} (ho : L[i]? = some o) (hedge : okEdges i o = true) (h : (mk L i).testBit j = true) : ∃ e ∈ o.after.toList, Region.binds .any e = true ∧ (j = e.on ∨ (mk L e.on).testBit j = true) := by
  obtain ⟨l, h1, h2, h3⟩ := masks_spec L []
  simp only [List.reverse_nil, List.nil_append] at h1 h3
  have hm : mk L i = msk ((l.take i).reverse) o := by unfold mk; rw [h1, nth_eq, h3 i o ho]; rfl
  rw [hm] at h
  rcases fold_bit _ j _ 0 h with h4 | ⟨e, he, hb, h4⟩
  · simp at h4
  · refine ⟨e, he, hb, h4.imp (fun z => z) fun h5 => ?_⟩
    have hlt : e.on < i := by
      have := List.all_eq_true.1 hedge e he
      simp only [hb, Bool.not_true, Bool.false_or] at this
      exact blt_lt this
    have hil : i < l.length := by
      rw [h2]
      rcases Nat.lt_or_ge i L.length with hh | hh
      · exact hh
      · rw [List.getElem?_eq_none hh] at ho; cases ho
    have hlen : ((l.take i).reverse).length = i := by simp; omega
    have e1 : nth ((l.take i).reverse) (Nat.sub (Nat.pred ((l.take i).reverse).length) e.on) = l[e.on]? := by
      rw [nth_eq, hlen]
      show (l.take i).reverse[i - 1 - e.on]? = _
      rw [List.getElem?_reverse (by simp; omega)]
      have e2 : (l.take i).length - 1 - (i - 1 - e.on) = e.on := by simp; omega
      rw [e2, List.getElem?_take, if_pos hlt]
    rw [e1] at h5
    unfold mk
    rw [h1, nth_eq]; exact h5

/-! ### The checks -/

theorem okOpers_at {all : List Oper} {ms : List Nat} : ∀ (os : List Oper) (i : Nat), okOpers all ms os i = true → ∀ (j : Nat) (o : Oper), os[j]? = some o →
    okEdges (i + j) o = true ∧ okDsts ms (i + j) ((nth ms (i + j)).getD 0) (tmpsOf all o) o.dst all 0 = true
  | [], i, h, j, o, ho => by simp at ho
  | x :: os, i, h, j, o, ho => by
    simp only [okOpers, Bool.and_eq_true] at h
    cases j with
    | zero => simp at ho; subst ho; exact ⟨h.1.1, h.1.2⟩
    | succ j =>
      have := okOpers_at os (Nat.succ i) h.2 j o (by simpa using ho)
      rw [show i + (j + 1) = Nat.succ i + j by omega]
      exact this

theorem okDsts_at {ms : List Nat} {i mi : Nat} {ts : List Tmp} {own : Option Tmp} : ∀ (os : List Oper) (l : Nat), okDsts ms i mi ts own os l = true → ∀ (j : Nat) (o : Oper), os[j]? = some o → ∀ d, o.dst = some d → okDst ms i mi ts (l + j) d own = true
  | [], l, h, j, o, ho => by simp at ho
  | x :: os, l, h, j, o, ho => by
    simp only [okDsts, Bool.and_eq_true] at h
    cases j with
    | zero => simp at ho; subst ho; intro d hd; rw [hd] at h; exact h.1
    | succ j =>
      have := okDsts_at os (Nat.succ l) h.2 j o (by simpa using ho)
      rw [show l + (j + 1) = Nat.succ l + j by omega]
      exact this

/-- what the checks say of two operations -/
theorem okDst_spec {ms : List Nat} {i mi : Nat} {ts : List Tmp} {own : Option Tmp} {l : Nat} {d : Tmp} (h : okDst ms i mi ts l d own = true) (hne : l ≠ i) :
    own ≠ some d ∧ (d ∈ ts → (l < i → mi.testBit l = true) ∧ (i < l → ((nth ms l).getD 0).testBit i = true)) := by
  unfold okDst at h
  split at h
  · rename_i hb; exact absurd (beq_eq' hb) hne
  · simp only [Bool.and_eq_true] at h
    obtain ⟨h1, h2⟩ := h
    refine ⟨fun e => ?_, fun hd => ?_⟩
    · rw [e] at h1
      simp [Nat.beq_refl] at h1
    · have hc : ts.contains d = true := by simpa using hd
      rw [hc] at h2
      simp only at h2
      split at h2
      · rename_i hlt; have := blt_lt hlt; exact ⟨fun _ => h2, fun _ => by omega⟩
      · rename_i hlt
        have : ¬ l < i := fun hh => by
          have h3 : Nat.blt l i = true := Nat.ble_eq_true_of_le hh
          rw [h3] at hlt; cases hlt
        exact ⟨fun _ => by omega, fun _ => h2⟩

/-! ### The walk in the text's order, step by step -/

section
variable {T : Tab} {rec : Rec} {n base : Nat} {L : List Oper}

/-- what one operation does to the state; v: what it came to -/
inductive StepD (T : Tab) (rec : Rec) (n base : Nat) (L : List Oper) (i m : Nat) (o : Oper) (s : DSt) (v : AVal) (env' : Tree AVal) : DSt → Prop where
  | skip (hw : wantedA s.env L o = some false) (hv : v = noVal) : StepD T rec n base L i m o s v env' { s with env := env' }
  | pure (hw : wantedA s.env L o = some true) (hc : cls o.op = .pure) (q : Heap) (he : evOp T s.env s.h 0 o.op = some (v, q)) : StepD T rec n base L i m o s v env' { s with env := env' }
  | read (hw : wantedA s.env L o = some true) (hc : cls o.op = .read) : StepD T rec n base L i m o s v env' { s with env := env', rds := ⟨i, o.op, s.env, v⟩ :: s.rds }
  | make (hw : wantedA s.env L o = some true) (hc : cls o.op = .make) (ob : AObj) (he : mkOp T s.env (base + i) o.op = some (v, ob)) : StepD T rec n base L i m o s v env' { s with env := env', pend := (i, ob) :: s.pend }
  | act (hw : wantedA s.env L o = some true) (hc : cls o.op = .act) (hch : ∀ e es, s.evs = e :: es → m.testBit e = true) (h' : Heap) (he : doOp T rec s.env (release base m s.pend s.h) (base + i) o.op = some (v, h')) :
      StepD T rec n base L i m o s v env' { env := env', h := h', pend := keep m s.pend, evs := i :: s.evs, vers := (Nat.succ i, h') :: s.vers, rds := s.rds }

theorem walkD_steps : ∀ (os : List Oper) (ms : List Nat) (i : Nat) (s s' : DSt), walkD T rec n base L os ms i s = some s' →
    ∃ (st : Nat → DSt) (vs : Nat → AVal), st 0 = s ∧ st os.length = s' ∧ ∀ (j : Nat) (o : Oper), os[j]? = some o → ∃ m, ms[j]? = some m ∧ putA (st j).env n o.dst (vs j) = some (st (j + 1)).env ∧
      StepD T rec n base L (i + j) m o (st j) (vs j) (st (j + 1)).env (st (j + 1))
  | [], ms, i, s, s', h => by
    simp [walkD] at h
    exact ⟨fun _ => s, fun _ => noVal, rfl, h, by simp⟩
  | o :: os, [], i, s, s', h => by simp [walkD] at h
  | o :: os, m :: ms, i, s, s', h => by
    have fin : ∀ (s1 : DSt) (v : AVal), putA s.env n o.dst v = some s1.env → StepD T rec n base L i m o s v s1.env s1 → walkD T rec n base L os ms (Nat.succ i) s1 = some s' →
        ∃ (st : Nat → DSt) (vs : Nat → AVal), st 0 = s ∧ st (o :: os).length = s' ∧ ∀ (j : Nat) (o' : Oper), (o :: os)[j]? = some o' → ∃ m', (m :: ms)[j]? = some m' ∧ putA (st j).env n o'.dst (vs j) = some (st (j + 1)).env ∧
          StepD T rec n base L (i + j) m' o' (st j) (vs j) (st (j + 1)).env (st (j + 1)) := by
      intro s1 v hput hst hrest
      obtain ⟨st, vs, h1, h2, h3⟩ := walkD_steps os ms (Nat.succ i) s1 s' hrest
      refine ⟨fun j => match j with | 0 => s | j + 1 => st j, fun j => match j with | 0 => v | j + 1 => vs j, rfl, by simpa using h2, fun j o' ho' => ?_⟩
      cases j with
      | zero =>
        simp at ho'; subst ho'
        refine ⟨m, rfl, ?_, ?_⟩
        · show putA s.env n o.dst v = some (st 0).env
          rw [h1]; exact hput
        · show StepD T rec n base L i m o s v (st 0).env (st 0)
          rw [h1]; exact hst
      | succ j =>
        obtain ⟨m', a1, a2, a3⟩ := h3 j o' (by simpa using ho')
        refine ⟨m', by simpa using a1, a2, ?_⟩
        show StepD T rec n base L (i + (j + 1)) m' o' (st j) (vs j) (st (j + 1)).env (st (j + 1))
        rw [show i + (j + 1) = Nat.succ i + j by omega]
        exact a3
    simp only [walkD] at h
    split at h
    · cases h
    · rename_i hw
      split at h
      · rename_i env' hput
        exact fin _ noVal hput (.skip hw rfl) h
      · cases h
    · rename_i hw
      split at h
      · rename_i hc
        split at h
        · rename_i v q he
          split at h
          · rename_i env' hput; exact fin _ v hput (.pure hw hc q he) h
          · cases h
        · cases h
      · rename_i hc
        split at h
        · rename_i v q he
          split at h
          · rename_i env' hput; exact fin _ v hput (.read hw hc) h
          · cases h
        · cases h
      · rename_i hc
        split at h
        · rename_i v ob he
          split at h
          · rename_i env' hput; exact fin _ v hput (.make hw hc ob he) h
          · cases h
        · cases h
      · rename_i hc
        split at h
        · rename_i hch
          split at h
          · rename_i v h' he
            split at h
            · rename_i env' hput
              refine fin _ v hput (.act hw hc ?_ h' he) h
              intro e es hes
              rw [hes] at hch; exact hch
            · cases h
          · cases h
        · cases h

end
end Cv

/- Soundness: regions that draw their order, the walk's facts. -/
set_option linter.unusedVariables false
set_option linter.unusedSimpArgs false
namespace Cv
open Go

theorem pure_heap {T : Tab} {env : Tree AVal} {op : Op} (hc : cls op = .pure) {h h2 q : Heap} {v : AVal} (e : evOp T env h 0 op = some (v, q)) : evOp T env h2 0 op = some (v, h2) := by
  have key : ∀ x : Option AVal, withH h x = some (v, q) → withH h2 x = some (v, h2) := fun x hx => by
    cases x <;> simp [withH] at hx ⊢; exact hx.1
  cases op <;> simp only [cls] at hc <;> first | (cases hc; done) | skip
  case move x => exact key _ e
  case assign x => exact key _ e
  case pick c a b =>
    simp only [evOp] at e ⊢
    split at e <;> first | exact key _ e | cases e
  case build t ps =>
    simp only [evOp] at e ⊢
    split at e <;> first | exact key _ e | cases e
  case nilCheck x =>
    simp only [evOp] at e ⊢
    split at e <;> first | (cases e; rfl) | cases e
  case binOp op t x y t2 =>
    simp only [evOp] at e ⊢
    split at e <;> first | exact key _ e | cases e
  case unOp op t x =>
    simp only [evOp] at e ⊢
    split at e <;> first | exact key _ e | cases e
  case makeInterface t x =>
    simp only [evOp] at e ⊢
    split at e <;> first | (cases e; rfl) | cases e
  case makeFunc fn a c =>
    cases fn <;> simp only [evOp] at e ⊢ <;> first | (cases e; done) | skip
    split at e <;> first | (cases e; rfl) | cases e
  case fieldAddr s x f =>
    simp only [evOp] at e ⊢
    split at e <;> first | exact key _ e | cases e
  case field s x f =>
    simp only [evOp] at e ⊢
    split at e <;> first | exact key _ e | cases e
  case indexAddr t x i =>
    simp only [evOp] at e ⊢
    split at e <;> first | exact key _ e | cases e
  case index t x i =>
    simp only [evOp] at e ⊢
    split at e <;> first | exact key _ e | cases e
  case extract t i =>
    simp only [evOp] at e ⊢
    split at e <;> first | exact key _ e | cases e
  case call c =>
    obtain ⟨callee, args, ats⟩ := c
    cases callee with
    | builtin b => cases b <;> simp only [cls] at hc <;> cases hc
    | _ => simp only [cls] at hc; cases hc

theorem evBuiltin_read {T : Tab} {h q : Heap} {rid : Nat} {b : Builtin} {ts : List TypeId} {l : List AVal} {v : AVal} (hb : b = .len ∨ b = .cap ∨ b = .max ∨ b = .min) (e : evBuiltin T h rid b ts l = some (v, q)) : q = h := by
  rcases hb with rfl | rfl | rfl | rfl <;> rcases ts with _ | ⟨t, _ | ⟨t2, _ | ⟨t3, ts⟩⟩⟩ <;> rcases l with _ | ⟨x, _ | ⟨y, _ | ⟨z, l⟩⟩⟩ <;> simp only [evBuiltin] at e <;>
    first | (cases e; done) | (split at e <;> first | (cases e; rfl) | cases e)

theorem read_heap {T : Tab} {env : Tree AVal} {op : Op} (hc : cls op = .read) {h q : Heap} {v : AVal} (e : evOp T env h 0 op = some (v, q)) : q = h := by
  have key : ∀ x : Option AVal, withH h x = some (v, q) → q = h := fun x hx => (withH_some hx).2
  cases op <;> simp only [cls] at hc <;> first | (cases hc; done) | skip
  case load t a =>
    simp only [evOp] at e
    split at e <;> first | exact key _ e | cases e
  case slice t x a b c =>
    simp only [evOp] at e
    split at e <;> first | exact key _ e | cases e
  case lookup t a b c =>
    simp only [evOp] at e
    split at e <;> first | exact key _ e | cases e
  case call c =>
    obtain ⟨callee, args, ats⟩ := c
    cases callee with
    | builtin b =>
      simp only [evOp] at e
      split at e
      · rename_i l hl
        cases b <;> simp only [cls] at hc <;> first | (cases hc; done) | exact evBuiltin_read (by simp) e
      · cases e
    | _ => simp only [cls] at hc; cases hc

theorem cls_makes {op : Op} (h : cls op = .pure ∨ cls op = .read) : makes op = false := by
  cases op with
  | call c =>
    obtain ⟨callee, args, ats⟩ := c
    cases callee with
    | builtin b => cases b <;> first | rfl | (rcases h with h | h <;> simp only [cls] at h <;> cases h)
    | _ => rfl
  | _ => first | rfl | (rcases h with h | h <;> simp only [cls] at h <;> cases h)

/-! ### Facts of the walk in the text's order -/

section
variable {T : Tab} {rec : Rec} {n base : Nat} {L : List Oper} {st : Nat → DSt} {vs : Nat → AVal}

/-- the walk -/
def Walks (T : Tab) (rec : Rec) (n base : Nat) (L : List Oper) (st : Nat → DSt) (vs : Nat → AVal) : Prop :=
  ∀ (j : Nat) (o : Oper), L[j]? = some o → putA (st j).env n o.dst (vs j) = some (st (j + 1)).env ∧ StepD T rec n base L j (mk L j) o (st j) (vs j) (st (j + 1)).env (st (j + 1))

variable (hw : Walks T rec n base L st vs) (h0e : (st 0).evs = []) (h0p : (st 0).pend = [])
include hw

theorem Walks.at {j : Nat} (hj : j < L.length) : ∃ o, L[j]? = some o ∧ putA (st j).env n o.dst (vs j) = some (st (j + 1)).env ∧ StepD T rec n base L j (mk L j) o (st j) (vs j) (st (j + 1)).env (st (j + 1)) :=
  ⟨L[j], by simp [hj], hw j _ (by simp [hj])⟩

/-- does the operation j act? -/
theorem Walks.evs_step {j : Nat} (hj : j < L.length) : (st (j + 1)).evs = (st j).evs ∨ (st (j + 1)).evs = j :: (st j).evs := by
  obtain ⟨o, ho, hp, hs⟩ := hw.at hj
  generalize (st (j + 1)).env = e1 at hs
  generalize hs1 : st (j + 1) = s1 at hs ⊢
  cases hs <;> first | exact .inl rfl | exact .inr rfl

theorem Walks.heap_step {j : Nat} (hj : j < L.length) (hne : (st (j + 1)).evs = (st j).evs) : (st (j + 1)).h = (st j).h := by
  obtain ⟨o, ho, hp, hs⟩ := hw.at hj
  generalize (st (j + 1)).env = e1 at hs
  generalize hs1 : st (j + 1) = s1 at hs hne ⊢
  cases hs <;> first | rfl | (simp only at hne; exact absurd (congrArg List.length hne) (by simp))

theorem Walks.evs_mem (h0e : (st 0).evs = []) : ∀ i, i ≤ L.length → ∀ e, e ∈ (st i).evs → e < i
  | 0, _, e, he => by rw [h0e] at he; cases he
  | i + 1, hi, e, he => by
    rcases hw.evs_step (j := i) (by omega) with h | h
    · rw [h] at he; have := Walks.evs_mem h0e i (by omega) e he; omega
    · rw [h] at he
      rcases List.mem_cons.1 he with h1 | h1
      · omega
      · have := Walks.evs_mem h0e i (by omega) e h1; omega

theorem Walks.evs_up {i j : Nat} (hij : i ≤ j) (hj : j ≤ L.length) {e : Nat} (he : e ∈ (st i).evs) : e ∈ (st j).evs := by
  induction j with
  | zero => have : i = 0 := by omega
            subst this; exact he
  | succ j ih =>
    rcases Nat.lt_or_ge i (j + 1) with h | h
    · have := ih (by omega) (by omega)
      rcases hw.evs_step (j := j) (by omega) with h1 | h1
      · rw [h1]; exact this
      · rw [h1]; exact List.mem_cons_of_mem _ this
    · have : i = j + 1 := by omega
      subst this; exact he

theorem Walks.evs_down {i j : Nat} (hij : i ≤ j) (hj : j ≤ L.length) {e : Nat} (he : e ∈ (st j).evs) (hei : e < i) : e ∈ (st i).evs := by
  induction j with
  | zero => have : i = 0 := by omega
            subst this; exact he
  | succ j ih =>
    rcases Nat.lt_or_ge i (j + 1) with h | h
    · rcases hw.evs_step (j := j) (by omega) with h1 | h1
      · rw [h1] at he; exact ih (by omega) (by omega) he
      · rw [h1] at he
        rcases List.mem_cons.1 he with h2 | h2
        · omega
        · exact ih (by omega) (by omega) h2
    · have : i = j + 1 := by omega
      subst this; exact he

/-- between acting operations memory stays -/
theorem Walks.heap_same (h0e : (st 0).evs = []) {p i : Nat} (hpi : p ≤ i) (hi : i ≤ L.length) (hno : ∀ e, e ∈ (st i).evs → e < p) : (st i).h = (st p).h := by
  induction i with
  | zero => have : p = 0 := by omega
            subst this; rfl
  | succ i ih =>
    rcases Nat.lt_or_ge p (i + 1) with h | h
    · rcases hw.evs_step (j := i) (by omega) with h1 | h1
      · rw [hw.heap_step (by omega) h1]
        exact ih (by omega) (by omega) (fun e he => hno e (by rw [h1]; exact he))
      · have := hno i (by rw [h1]; simp)
        omega
    · have : p = i + 1 := by omega
      subst this; rfl

/-- the newest acting operation is the last one -/
theorem Walks.evs_head (h0e : (st 0).evs = []) : ∀ i, i ≤ L.length → ∀ e es, (st i).evs = e :: es → ∀ e', e' ∈ (st i).evs → e' ≤ e
  | 0, _, e, es, h, e', he' => by rw [h0e] at h; cases h
  | i + 1, hi, e, es, h, e', he' => by
    rcases hw.evs_step (j := i) (by omega) with h1 | h1
    · rw [h1] at h he'
      exact Walks.evs_head h0e i (by omega) e es h e' he'
    · rw [h1] at h he'
      cases h
      rcases List.mem_cons.1 he' with h2 | h2
      · omega
      · have := hw.evs_mem h0e i (by omega) e' h2; omega

theorem Walks.vers_mem {i j : Nat} (hij : i ≤ j) (hj : j ≤ L.length) {q : Nat × Heap} (h : q ∈ (st i).vers) : q ∈ (st j).vers := by
  induction j with
  | zero => have : i = 0 := by omega
            subst this; exact h
  | succ j ih =>
    rcases Nat.lt_or_ge i (j + 1) with h1 | h1
    · have := ih (by omega) (by omega)
      obtain ⟨o, ho, hp, hs⟩ := hw.at (j := j) (by omega)
      generalize (st (j + 1)).env = e1 at hs
      generalize hs1 : st (j + 1) = s1 at hs ⊢
      cases hs <;> first | exact this | exact List.mem_cons_of_mem _ this
    · have : i = j + 1 := by omega
      subst this; exact h

theorem Walks.vers_act {e : Nat} (he : e < L.length) (ha : (st (e + 1)).evs = e :: (st e).evs) : (e + 1, (st (e + 1)).h) ∈ (st (e + 1)).vers := by
  obtain ⟨o, ho, hp, hs⟩ := hw.at he
  generalize (st (e + 1)).env = e1 at hs
  generalize hs1 : st (e + 1) = s1 at hs ha ⊢
  cases hs <;> first | exact List.mem_cons_self | (simp only at ha; exact absurd (congrArg List.length ha) (by simp))

theorem Walks.rds_up {i j : Nat} (hij : i ≤ j) (hj : j ≤ L.length) {q : Rd} (h : q ∈ (st i).rds) : q ∈ (st j).rds := by
  induction j with
  | zero => have : i = 0 := by omega
            subst this; exact h
  | succ j ih =>
    rcases Nat.lt_or_ge i (j + 1) with h1 | h1
    · have := ih (by omega) (by omega)
      obtain ⟨o, ho, hp, hs⟩ := hw.at (j := j) (by omega)
      generalize (st (j + 1)).env = e1 at hs
      generalize hs1 : st (j + 1) = s1 at hs ⊢
      cases hs <;> first | exact this | exact List.mem_cons_of_mem _ this
    · have : i = j + 1 := by omega
      subst this; exact h

/-- a slot's value on the way: of the one operation that wrote it, or as it was -/
theorem Walks.env_at (hd : ∀ (i j : Nat) (o q : Oper) (d : Tmp), L[i]? = some o → L[j]? = some q → i ≠ j → o.dst = some d → q.dst ≠ some d) : ∀ i, i ≤ L.length → ∀ t x, (st i).env.get t = some x →
    (∃ l o, l < i ∧ L[l]? = some o ∧ o.dst = some t ∧ x = vs l) ∨ ((∀ l o, l < i → L[l]? = some o → o.dst ≠ some t) ∧ (st 0).env.get t = some x)
  | 0, _, t, x, h => .inr ⟨fun l o hl => by omega, h⟩
  | i + 1, hi, t, x, h => by
    obtain ⟨o, ho, hp, hs⟩ := hw.at (j := i) (by omega)
    have main : (st i).env.get t = some x → o.dst ≠ some t → (∃ l o, l < i + 1 ∧ L[l]? = some o ∧ o.dst = some t ∧ x = vs l) ∨ ((∀ l o, l < i + 1 → L[l]? = some o → o.dst ≠ some t) ∧ (st 0).env.get t = some x) := by
      intro h1 hne
      rcases Walks.env_at hd i (by omega) t x h1 with ⟨l, q, a1, a2, a3, a4⟩ | ⟨a1, a2⟩
      · exact .inl ⟨l, q, by omega, a2, a3, a4⟩
      · refine .inr ⟨fun l q hl hq => ?_, a2⟩
        rcases Nat.lt_or_ge l i with hli | hli
        · exact a1 l q hli hq
        · have : l = i := by omega
          subst this; rw [ho] at hq; cases hq; exact hne
    unfold putA at hp
    split at hp
    · rename_i hdst
      injection hp with hp
      rw [← hp] at h
      exact main h (by rw [hdst]; simp)
    · rename_i d hdst
      split at hp
      · injection hp with hp
        rw [← hp] at h
        rcases Tree.get_set h with ⟨e1, e2⟩ | ⟨e1, e2⟩
        · subst e1; subst e2; exact .inl ⟨i, o, by omega, ho, hdst, rfl⟩
        · exact main e2 (by rw [hdst]; intro hh; cases hh; exact e1 rfl)
      · cases hp

/-- is the operation a one that makes the object ob? -/
def Makes (T : Tab) (base : Nat) (L : List Oper) (st : Nat → DSt) (vs : Nat → AVal) (a : Nat) (ob : AObj) : Prop :=
  ∃ o, L[a]? = some o ∧ wantedA (st a).env L o = some true ∧ cls o.op = .make ∧ mkOp T (st a).env (base + a) o.op = some (vs a, ob)

omit hw in
theorem mem_keep {m : Nat} : ∀ {l : List (Nat × AObj)} {q : Nat × AObj}, q ∈ keep m l ↔ q ∈ l ∧ m.testBit q.1 = false
  | [], q => by simp [keep]
  | (a, o) :: l, q => by
    simp only [keep]
    split
    · rename_i hb
      rw [mem_keep]
      constructor
      · rintro ⟨h1, h2⟩; exact ⟨List.mem_cons_of_mem _ h1, h2⟩
      · rintro ⟨h1, h2⟩
        rcases List.mem_cons.1 h1 with h3 | h3
        · subst h3; rw [hb] at h2; cases h2
        · exact ⟨h3, h2⟩
    · rename_i hb
      simp only [List.mem_cons, mem_keep]
      constructor
      · rintro (h1 | ⟨h1, h2⟩)
        · subst h1; exact ⟨.inl rfl, hb⟩
        · exact ⟨.inr h1, h2⟩
      · rintro ⟨h1 | h1, h2⟩
        · exact .inl h1
        · exact .inr ⟨h1, h2⟩

/-- what is pending: made, and named by no acting operation since -/
theorem Walks.pend_mem (h0e : (st 0).evs = []) (h0p : (st 0).pend = []) : ∀ i, i ≤ L.length → ∀ a ob, (a, ob) ∈ (st i).pend ↔ (a < i ∧ Makes T base L st vs a ob ∧ ∀ e, e ∈ (st i).evs → a < e → (mk L e).testBit a = false)
  | 0, _, a, ob => by rw [h0p]; simp
  | i + 1, hi, a, ob => by
    obtain ⟨o, ho, hp, hs⟩ := hw.at (j := i) (by omega)
    have ih := Walks.pend_mem h0e h0p i (by omega) a ob
    have hmem := hw.evs_mem h0e i (by omega)
    have notmake : cls o.op ≠ .make ∨ wantedA (st i).env L o ≠ some true → ¬ (a = i ∧ Makes T base L st vs a ob) := by
      rintro h1 ⟨rfl, q, hq, h2, h3, _⟩
      rw [ho] at hq; cases hq
      rcases h1 with h1 | h1
      · exact h1 h3
      · exact h1 h2
    have same : (¬ (a = i ∧ Makes T base L st vs a ob)) → ((a < i + 1 ∧ Makes T base L st vs a ob ∧ ∀ e, e ∈ (st i).evs → a < e → (mk L e).testBit a = false) ↔ (a < i ∧ Makes T base L st vs a ob ∧ ∀ e, e ∈ (st i).evs → a < e → (mk L e).testBit a = false)) := by
      intro hn
      constructor
      · rintro ⟨h1, h2, h3⟩
        refine ⟨?_, h2, h3⟩
        rcases Nat.lt_or_ge a i with h | h
        · exact h
        · exact absurd ⟨by omega, h2⟩ hn
      · rintro ⟨h1, h2, h3⟩; exact ⟨by omega, h2, h3⟩
    generalize (st (i + 1)).env = e1 at hs
    generalize hs1 : st (i + 1) = s1 at hs ⊢
    cases hs with
    | skip hw' hv => exact ih.trans (same (notmake (.inr (by rw [hw']; simp)))).symm
    | pure hw' hc q he => exact ih.trans (same (notmake (.inl (by rw [hc]; simp)))).symm
    | read hw' hc => exact ih.trans (same (notmake (.inl (by rw [hc]; simp)))).symm
    | make hw' hc ob' he =>
      simp only [List.mem_cons, ih]
      constructor
      · rintro (h1 | ⟨h1, h2, h3⟩)
        · cases h1
          exact ⟨by omega, ⟨o, ho, hw', hc, he⟩, fun e he' hlt => by have := hmem e he'; omega⟩
        · exact ⟨by omega, h2, h3⟩
      · rintro ⟨h1, h2, h3⟩
        rcases Nat.lt_or_ge a i with h | h
        · exact .inr ⟨h, h2, h3⟩
        · have : a = i := by omega
          subst this
          obtain ⟨q, hq, _, _, h4⟩ := h2
          rw [ho] at hq; cases hq
          rw [he] at h4
          cases h4
          exact .inl rfl
    | act hw' hc hch h' he =>
      simp only [mem_keep, ih, List.mem_cons]
      have hn := notmake (.inl (by rw [hc]; simp))
      constructor
      · rintro ⟨⟨h1, h2, h3⟩, h4⟩
        exact ⟨by omega, h2, fun e he' hlt => by
          rcases he' with h5 | h5
          · rw [h5]; exact h4
          · exact h3 e h5 hlt⟩
      · rintro ⟨h1, h2, h3⟩
        have hlt : a < i := by
          rcases Nat.lt_or_ge a i with h | h
          · exact h
          · exact absurd ⟨by omega, h2⟩ hn
        exact ⟨⟨hlt, h2, fun e he' => h3 e (.inr he')⟩, h3 i (.inl rfl) hlt⟩

end
end Cv

/- Soundness: regions that draw their order. -/
set_option linter.unusedVariables false
set_option linter.unusedSimpArgs false
namespace Cv
open Go

/-- a new block beside what is owned -/
theorem Rel.side {ρ : Ren} {h : Heap} {w w' : World} (r : Rel ρ h w) {rid : Nat} {c : Obj} (hn : ρ rid = none) (hr : rid < h.next)
    (hw : w'.heap = w.heap.push c) (ht : w'.tape = w.tape) (hos : w'.os = w.os) (hout : w'.output = w.output) :
    let ρ' : Ren := fun i => if i = rid then some w.heap.size else ρ i
    Rel ρ' h w' ∧ Ext (· = rid) ρ h w ρ' h w' ∧ ρ' rid = some w.heap.size := by
  intro ρ'
  have hsz : w'.heap.size = w.heap.size + 1 := by rw [hw]; simp
  have hold : ∀ x, x < w.heap.size → w'.heap[x]? = w.heap[x]? := fun x hx => by rw [hw, Array.getElem?_push, if_neg (by omega)]
  have hmono : ∀ i b, ρ i = some b → ρ' i = some b := fun i b hb => by
    have : i ≠ rid := fun e => by rw [e, hn] at hb; cases hb
    simp [ρ', this, hb]
  have hshp : ∀ x e n, w.shape? x = some (e, n) → w'.shape? x = some (e, n) := fun x e n hx => by
    have hlt : x < w.heap.size := by
      rcases Nat.lt_or_ge x w.heap.size with hl | hl
      · exact hl
      · simp [World.shape?, Array.getElem?_eq_none hl] at hx
    rw [shape_congr (hold x hlt)]; exact hx
  have g : Grow ρ w ρ' w' := ⟨hmono, hshp⟩
  have hcase : ∀ i b, ρ' i = some b → (i = rid ∧ b = w.heap.size) ∨ (i ≠ rid ∧ ρ i = some b) := fun i b hb => by
    by_cases e : i = rid
    · left; simp [ρ', e] at hb; exact ⟨e, hb.symm⟩
    · right; simp [ρ', e] at hb; exact ⟨e, hb⟩
  have hin : ∀ i oi, h.get i = some oi → i ≠ rid := fun i oi hi e => by
    obtain ⟨b, c, h1, _⟩ := r.obj i oi hi
    rw [e, hn] at h1; cases h1
  refine ⟨⟨?_, ?_, ?_, ?_⟩, ⟨hmono, ?_, ?_, fun x hx _ => hold x hx, hshp, by omega, ht, hos, hout, Nat.le_refl _⟩, by simp [ρ']⟩
  · intro i oi hi
    obtain ⟨x, cx, h1, h2, h3⟩ := r.obj i oi hi
    exact ⟨x, cx, hmono _ _ h1, by rw [hold x (r.bound _ _ h1)]; exact h2, h3.mono g⟩
  · intro i j oi oj x hi hj hxi hxj
    rcases hcase i x hxi with ⟨e, _⟩ | ⟨_, hxi⟩
    · exact absurd e (hin i oi hi)
    · rcases hcase j x hxj with ⟨e, _⟩ | ⟨_, hxj⟩
      · exact absurd e (hin j oj hj)
      · exact r.inj _ _ _ _ _ hi hj hxi hxj
  · intro i hi
    have : i ≠ rid := fun e => by rw [e] at hi; omega
    simp [ρ', this]; exact r.fresh i hi
  · intro i x hx
    rcases hcase i x hx with ⟨_, e⟩ | ⟨_, hx⟩
    · omega
    · have := r.bound _ _ hx; omega
  · intro i x hx
    rcases hcase i x hx with ⟨e, ex⟩ | ⟨_, hx⟩
    · exact .inr ⟨.inl e, .inl (by omega)⟩
    · exact .inl hx
  · rintro x ⟨i, oi, hi, hx⟩
    rcases hcase i x hx with ⟨e, ex⟩ | ⟨ne, hx⟩
    · exact absurd e (hin i oi hi)
    · exact .inr ⟨i, oi, hi, hx⟩

/-- an object that stands ready is taken in -/
theorem Rel.adopt {ρ : Ren} {h : Heap} {w : World} (r : Rel ρ h w) {id b : Nat} {o : AObj} {c : Obj} (hb : ρ id = some b) (hc : w.heap[b]? = some c) (ho : OR ρ w o c) (hno : ¬ Owns ρ h b) : Rel ρ (h.set id o) w := by
  refine ⟨?_, ?_, r.fresh, r.bound⟩
  · intro i oi hi
    rcases Heap.get_set hi with ⟨e, e2⟩ | ⟨_, hi⟩
    · subst e; subst e2; exact ⟨b, c, hb, hc, ho⟩
    · exact r.obj i oi hi
  · intro i j oi oj x hi hj hxi hxj
    rcases Heap.get_set hi with ⟨e, _⟩ | ⟨ne, hi⟩ <;> rcases Heap.get_set hj with ⟨e', _⟩ | ⟨ne', hj⟩
    · rw [e, e']
    · rw [e, hb] at hxi; cases hxi
      exact absurd ⟨j, oj, hj, hxj⟩ hno
    · rw [e', hb] at hxj; cases hxj
      exact absurd ⟨i, oi, hi, hxi⟩ hno
    · exact r.inj _ _ _ _ _ hi hj hxi hxj

/-- objects that stand ready, beside what is owned -/
structure Ready (ρ : Ren) (w : World) (h : Heap) (lo id : Nat) (o : AObj) : Prop where
  ex : ∃ b c, ρ id = some b ∧ w.heap[b]? = some c ∧ OR ρ w o c ∧ ¬ Owns ρ h b ∧ (∀ j, ρ j = some b → j = id) ∧ lo ≤ b

theorem Ready.set {ρ : Ren} {w : World} {h : Heap} {lo id j : Nat} {o q : AObj} (hr : Ready ρ w h lo id o) (hne : j ≠ id) : Ready ρ w (h.set j q) lo id o := by
  obtain ⟨b, c, h1, h2, h3, h4, h5, h6⟩ := hr.ex
  refine ⟨b, c, h1, h2, h3, ?_, h5, h6⟩
  rintro ⟨i, oi, hi, hx⟩
  rcases Heap.get_set hi with ⟨e, _⟩ | ⟨_, hi⟩
  · subst e; exact hne (h5 _ hx)
  · exact h4 ⟨i, oi, hi, hx⟩

/-- taking in what an operation names -/
theorem release_ok {ρ : Ren} {w : World} {lo base m : Nat} : ∀ (l : List (Nat × AObj)) (h : Heap), Rel ρ h w → (l.map (·.1)).Nodup → (∀ q ∈ l, m.testBit q.1 = true → Ready ρ w h lo (base + q.1) q.2) →
    Rel ρ (release base m l h) w ∧ (release base m l h).next = h.next ∧ (∀ x, Owns ρ (release base m l h) x → Owns ρ h x ∨ (lo ≤ x ∧ ∃ q ∈ l, m.testBit q.1 = true ∧ ρ (base + q.1) = some x))
  | [], h, r, _, _ => ⟨r, rfl, fun x hx => .inl hx⟩
  | (a, o) :: l, h, r, hnd, hq => by
    simp only [List.map_cons, List.nodup_cons] at hnd
    simp only [release]
    split
    · rename_i hb
      have hra := hq (a, o) (by simp) hb
      obtain ⟨b, c, h1, h2, h3, h4, h5, h6⟩ := hra.ex
      have r' : Rel ρ (h.set (base + a) o) w := r.adopt h1 h2 h3 h4
      obtain ⟨i1, i2, i3⟩ := release_ok l (h.set (base + a) o) r' hnd.2 (fun q hq' hb' => by
        refine (hq q (List.mem_cons_of_mem _ hq') hb').set ?_
        intro e
        have : q.1 = a := by omega
        exact hnd.1 (this ▸ List.mem_map_of_mem hq'))
      refine ⟨i1, i2, fun x hx => ?_⟩
      rcases i3 x hx with ⟨i, oi, hi, hxi⟩ | ⟨k1, q, hq', k2⟩
      · rcases Heap.get_set hi with ⟨e, _⟩ | ⟨_, hi⟩
        · subst e; rw [h1] at hxi; cases hxi
          exact .inr ⟨h6, (a, o), by simp, hb, h1⟩
        · exact .inl ⟨i, oi, hi, hxi⟩
      · exact .inr ⟨k1, q, List.mem_cons_of_mem _ hq', k2⟩
    · obtain ⟨i1, i2, i3⟩ := release_ok l h r hnd.2 (fun q hq' hb' => hq q (List.mem_cons_of_mem _ hq') hb')
      refine ⟨i1, i2, fun x hx => (i3 x hx).imp (fun z => z) fun ⟨k1, q, hq', k2⟩ => ⟨k1, q, List.mem_cons_of_mem _ hq', k2⟩⟩

theorem releaseAll_ok {ρ : Ren} {w : World} {lo base : Nat} : ∀ (l : List (Nat × AObj)) (h : Heap), Rel ρ h w → (l.map (·.1)).Nodup → (∀ q ∈ l, Ready ρ w h lo (base + q.1) q.2) →
    Rel ρ (releaseAll base l h) w ∧ (releaseAll base l h).next = h.next ∧ (∀ x, Owns ρ (releaseAll base l h) x → Owns ρ h x ∨ lo ≤ x)
  | [], h, r, _, _ => ⟨r, rfl, fun x hx => .inl hx⟩
  | (a, o) :: l, h, r, hnd, hq => by
    simp only [List.map_cons, List.nodup_cons] at hnd
    simp only [releaseAll]
    obtain ⟨b, c, h1, h2, h3, h4, h5, h6⟩ := (hq (a, o) (by simp)).ex
    have r' : Rel ρ (h.set (base + a) o) w := r.adopt h1 h2 h3 h4
    obtain ⟨i1, i2, i3⟩ := releaseAll_ok l (h.set (base + a) o) r' hnd.2 (fun q hq' => by
      refine (hq q (List.mem_cons_of_mem _ hq')).set ?_
      intro e
      have : q.1 = a := by omega
      exact hnd.1 (this ▸ List.mem_map_of_mem hq'))
    refine ⟨i1, i2, fun x hx => ?_⟩
    rcases i3 x hx with ⟨i, oi, hi, hxi⟩ | k1
    · rcases Heap.get_set hi with ⟨e, _⟩ | ⟨_, hi⟩
      · subst e; rw [h1] at hxi; cases hxi
        exact .inr h6
      · exact .inl ⟨i, oi, hi, hxi⟩
    · exact .inr k1

theorem allowed_mem {ms : List Nat} {i mi p : Nat} : ∀ {l : List Nat}, (∀ e ∈ l, (mi.testBit e = true → e < p) ∧ (((nth ms e).getD 0).testBit i = true → p ≤ e)) → allowed ms i mi p l = true
  | [], _ => rfl
  | e :: l, h => by
    obtain ⟨h1, h2⟩ := h e (by simp)
    have ih := allowed_mem (fun x hx => h x (List.mem_cons_of_mem _ hx)) (ms := ms) (i := i) (mi := mi) (p := p) (l := l)
    have a1 : bitLt mi e p = true := by
      unfold bitLt
      cases hb : mi.testBit e with
      | true => exact Nat.ble_eq_true_of_le (h1 hb)
      | false => rfl
    have a2 : bitLe ((nth ms e).getD 0) i p e = true := by
      unfold bitLe
      cases hb : ((nth ms e).getD 0).testBit i with
      | true => exact Nat.ble_eq_true_of_le (h2 hb)
      | false => rfl
    simp only [allowed, a1, a2, ih]

theorem readOk_mem {T : Tab} {ms evs : List Nat} {r : Rd} : ∀ {l : List (Nat × Heap)}, readOk T ms evs r l = true → ∀ p h, (p, h) ∈ l → allowed ms r.i ((nth ms r.i).getD 0) p evs = true → ∃ q, evOp T r.env h 0 r.op = some (r.v, q)
  | [], _, p, h, hm, _ => by cases hm
  | (p', h') :: l, e, p, h, hm, ha => by
    simp only [readOk] at e
    rcases List.mem_cons.1 hm with h1 | h1
    · cases h1
      rw [ha] at e
      simp only at e
      split at e
      · rename_i v q he
        split at e
        · rename_i hb; exact ⟨q, by rw [he, beq_eq _ _ hb]⟩
        · cases e
      · cases e
    · split at e
      · split at e
        · split at e
          · exact readOk_mem e p h h1 ha
          · cases e
        · cases e
      · exact readOk_mem e p h h1 ha

theorem readsOk_mem {T : Tab} {ms evs : List Nat} {vers : List (Nat × Heap)} : ∀ {l : List Rd}, readsOk T ms evs vers l = true → ∀ r ∈ l, readOk T ms evs r vers = true
  | [], _, r, hm => by cases hm
  | x :: l, e, r, hm => by
    simp only [readsOk] at e
    split at e
    · rename_i hx
      rcases List.mem_cons.1 hm with h1 | h1
      · subst h1; exact hx
      · exact readsOk_mem e r h1
    · cases e

section
variable {T : Tab} {P : Program} (hT : TabOk T P) {rec : Rec} (hrec : RecOk P rec)

/-- the state while some operations of a region are done; p: what follows the last acting one -/
structure Inv (T : Tab) (n base : Nat) (L : List Oper) (st : Nat → DSt) (vs : Nat → AVal) (ρ0 : Ren) (h0 : Heap) (w0 : World) (S : Nat → Prop) (p : Nat) (ρ : Ren) (w : World) (t : Array Value) : Prop where
  dn : ∀ i, S i → i < L.length ∧ ∀ j, (mk L i).testBit j = true → S j
  le : p ≤ L.length
  cur : ∀ e, e ∈ (st L.length).evs → (S e ↔ e < p)
  ver : (p, (st p).h) ∈ (st L.length).vers
  rel : Rel ρ (st p).h w
  nx : base + L.length ≤ (st p).h.next
  unr : ∀ a ob, Makes T base L st vs a ob → S a → (∀ e, e ∈ (st L.length).evs → e < p → (mk L e).testBit a = false) → Ready ρ w (st p).h w0.heap.size (base + a) ob
  ids : ∀ i, i < L.length → ¬ S i → ρ (base + i) = none
  size : t.size = n
  tm0 : ∀ x v, (st 0).env.get x = some v → (∀ l o, S l → L[l]? = some o → o.dst ≠ some x) → ∃ c, t[x]? = some c ∧ V ρ w v c
  tm1 : ∀ l o x, S l → L[l]? = some o → o.dst = some x → ∃ c, t[x]? = some c ∧ V ρ w (vs l) c
  ext : Ext (fun id => base ≤ id) ρ0 h0 w0 ρ (st p).h w

theorem putA_lt {env env' : Tree AVal} {n : Nat} {v : AVal} {dst : Option Tmp} (e : putA env n dst v = some env') {x : Tmp} (hx : dst = some x) : x < n := by
  subst hx
  simp only [putA] at e
  split at e
  · rename_i h; exact blt_lt h
  · cases e

/-- Ready is kept where the memory that is owned turns -/
theorem Ready.ext {ρ ρ' : Ren} {w w' : World} {h h' : Heap} {lo id : Nat} {o : AObj} (hr : Ready ρ w h lo id o) {only : Nat → Prop} (e : Ext only ρ h w ρ' h' w') (r : Rel ρ h w) : Ready ρ' w' h' lo id o := by
  obtain ⟨b, c, h1, h2, h3, h4, h5, h6⟩ := hr.ex
  have hlt := r.bound _ _ h1
  refine ⟨b, c, e.mono _ _ h1, by rw [e.blk b hlt h4]; exact h2, h3.mono e.grow, ?_, ?_, h6⟩
  · intro ho
    rcases e.own b ho with h7 | h7
    · omega
    · exact h4 h7
  · intro j hj
    rcases e.new j b hj with h7 | ⟨_, h7 | h7⟩
    · exact h5 j h7
    · omega
    · exact absurd h7 h4

include hT hrec

theorem inv_step {n base : Nat} {ops : Array Oper} {st : Nat → DSt} {vs : Nat → AVal} (hw : Walks T rec n base ops.toList st vs) (h0e : (st 0).evs = []) (h0p : (st 0).pend = [])
    (hok : okOpers ops.toList (masks ops.toList []) ops.toList 0 = true) (hro : readsOk T (masks ops.toList []) (st ops.toList.length).evs (st ops.toList.length).vers (st ops.toList.length).rds = true)
    {ρ0 : Ren} {h0 : Heap} {w0 : World} (hb0 : h0.next = base) {S : Nat → Prop} {p : Nat} {ρ : Ren} {w : World} {t : Array Value} (inv : Inv T n base ops.toList st vs ρ0 h0 w0 S p ρ w t)
    {i : Nat} (hi : i < ops.toList.length) (hS : ¬ S i) (hpre : ∀ o, ops.toList[i]? = some o → ∀ e ∈ o.after.toList, Region.binds .any e = true → S e.on)
    {b : Frame} {d : List Deferred} {k : List Item} {rest : List Nat} (cs : List Frame) :
    ∃ p' ρ' w' t', Steps P (lone (fr b t d (.inRegion ops (i :: rest) :: k)) cs w) (lone (fr b t' d (.inRegion ops rest :: k)) cs w') ∧ Inv T n base ops.toList st vs ρ0 h0 w0 (fun j => j = i ∨ S j) p' ρ' w' t' := by
  generalize hL : ops.toList = L at *
  obtain ⟨o, ho, hput, hs⟩ := hw.at hi
  have hoi : ops[i]? = some o := by rw [← hL] at ho; simpa using ho
  obtain ⟨hedge, hdsts⟩ := okOpers_at L 0 hok i o ho
  rw [Nat.zero_add] at hedge hdsts
  -- what stands ahead is done
  have hmS : ∀ j, (mk L i).testBit j = true → S j := fun j hj => by
    obtain ⟨e, he, hb, h1⟩ := mask_bit ho hedge hj
    have hSe := hpre o ho e he hb
    rcases h1 with h1 | h1
    · rw [h1]; exact hSe
    · exact (inv.dn _ hSe).2 j h1
  have hd : ∀ (i j : Nat) (o q : Oper) (x : Tmp), L[i]? = some o → L[j]? = some q → i ≠ j → o.dst = some x → q.dst ≠ some x := by
    intro i j o q x hoi hqj hne hox
    have h1 := (okOpers_at L 0 hok j q hqj).2
    rw [Nat.zero_add] at h1
    have h2 := okDsts_at L 0 h1 i o hoi x hox
    rw [Nat.zero_add] at h2
    exact (okDst_spec h2 hne).1
  -- the operands
  have hopnd : ∀ x ∈ tmpsOf L o, ∀ v, (st i).env.get x = some v → ∃ c, t[x]? = some c ∧ V ρ w v c := by
    intro x hx v hv
    rcases hw.env_at hd i (by omega) x v hv with ⟨l, q, a1, a2, a3, a4⟩ | ⟨a1, a2⟩
    · subst a4
      have h2 := okDsts_at L 0 hdsts l q a2 x a3
      rw [Nat.zero_add] at h2
      have h3 := (okDst_spec h2 (by omega)).2 hx
      exact inv.tm1 l q x (hmS l (h3.1 a1)) a2 a3
    · refine inv.tm0 x v a2 fun l q hSl hq hqx => ?_
      have hne : l ≠ i := fun e => hS (e ▸ hSl)
      rcases Nat.lt_or_ge l i with hli | hli
      · exact a1 l q hli hq hqx
      · have h2 := okDsts_at L 0 hdsts l q hq x hqx
        rw [Nat.zero_add] at h2
        have h3 := (okDst_spec h2 hne).2 hx
        have h4 := h3.2 (by omega)
        exact hS ((inv.dn l hSl).2 i h4)
  have hE : ∀ x ∈ o.op.operands, ∀ a, ev (st i).env x = some a → V ρ w a ((fr b t d (.inRegion ops (i :: rest) :: k)).eval x) := by
    intro x hx a ha
    unfold ev at ha
    split at ha
    · rename_i tm
      have hmem : tm ∈ tmpsOf L o := by
        unfold tmpsOf
        refine List.mem_append_left _ (List.mem_filterMap.2 ⟨.tmp tm, by simpa using hx, rfl⟩)
      obtain ⟨c, h1, h2⟩ := hopnd tm hmem a ha
      simp only [Frame.eval, fr, Array.getD_eq_getD_getElem?, h1, Option.getD_some]
      exact h2
    · exact ofConst_ok ha ρ w
    · cases ha; exact .fn _ [] [] [] [] rfl (by simp) rfl (by simp)
    · cases ha
  have hg : ∀ x v, (st i).env.get x = some v → (∃ j w, o.guard = some (j, w) ∧ ∃ g, ops[j]? = some g ∧ g.dst = some x) → ∃ c, t[x]? = some c ∧ V ρ w v c := by
    rintro x v hv ⟨j, wt, hgd, g, hgj, hgx⟩
    refine hopnd x ?_ v hv
    unfold tmpsOf
    refine List.mem_append_right _ ?_
    have : nth L j = some g := by rw [nth_eq, ← hL]; simpa using hgj
    simp [hgd, this, hgx]
  have hevs := hw.evs_mem h0e
  -- the slots behind it
  have slots : ∀ {ρ' : Ren} {w' : World} {c : Value}, Grow ρ w ρ' w' → V ρ' w' (vs i) c →
      (putC t o.dst c).size = n ∧ (∀ x v, (st 0).env.get x = some v → (∀ l q, (l = i ∨ S l) → L[l]? = some q → q.dst ≠ some x) → ∃ c', (putC t o.dst c)[x]? = some c' ∧ V ρ' w' v c') ∧
      (∀ l q x, (l = i ∨ S l) → L[l]? = some q → q.dst = some x → ∃ c', (putC t o.dst c)[x]? = some c' ∧ V ρ' w' (vs l) c') := by
    intro ρ' w' c g hv
    have other : ∀ x, o.dst ≠ some x → (putC t o.dst c)[x]? = t[x]? := fun x hx => by
      unfold putC
      split
      · rename_i dd hdd
        rw [Array.getElem?_setIfInBounds, if_neg (fun e => hx (by rw [hdd, e]))]
      · rfl
    refine ⟨?_, ?_, ?_⟩
    · unfold putC; split <;> simp [inv.size]
    · intro x v hx hno
      obtain ⟨c', h1, h2⟩ := inv.tm0 x v hx (fun l q hl hq => hno l q (.inr hl) hq)
      exact ⟨c', by rw [other x (hno i o (.inl rfl) ho)]; exact h1, h2.mono g⟩
    · intro l q x hl hq hqx
      by_cases hli : l = i
      · subst hli
        rw [ho] at hq; cases hq
        have hlt := putA_lt hput hqx
        refine ⟨c, ?_, hv⟩
        rw [hqx]
        simp only [putC]
        rw [Array.getElem?_setIfInBounds, if_pos rfl, if_pos (by rw [inv.size]; exact hlt)]
      · have hSl : S l := hl.resolve_left hli
        obtain ⟨c', h1, h2⟩ := inv.tm1 l q x hSl hq hqx
        exact ⟨c', by rw [other x (hd l i q o x hq ho hli hqx)]; exact h1, h2.mono g⟩
  have dn' : ∀ j, (j = i ∨ S j) → j < L.length ∧ ∀ q, (mk L j).testBit q = true → (q = i ∨ S q) := by
    rintro j (rfl | hj)
    · exact ⟨hi, fun q hq => .inr (hmS q hq)⟩
    · exact ⟨(inv.dn j hj).1, fun q hq => .inr ((inv.dn j hj).2 q hq)⟩
  -- an operation that does not act, and makes nothing: the memory may have grown beside
  have quiet : (st (i + 1)).evs = (st i).evs → (∀ ob, ¬ Makes T base L st vs i ob) → ∀ {ρ' : Ren} {w' : World} {c : Value}, Steps P (lone (fr b t d (.inRegion ops (i :: rest) :: k)) cs w) (lone (fr b (putC t o.dst c) d (.inRegion ops rest :: k)) cs w') →
      Rel ρ' (st p).h w' → V ρ' w' (vs i) c → Ext (fun _ => False) ρ (st p).h w ρ' (st p).h w' →
      ∃ p' ρ' w' t', Steps P (lone (fr b t d (.inRegion ops (i :: rest) :: k)) cs w) (lone (fr b t' d (.inRegion ops rest :: k)) cs w') ∧ Inv T n base L st vs ρ0 h0 w0 (fun j => j = i ∨ S j) p' ρ' w' t' := by
    intro hne hnm ρ' w' c hst hrel hv hext
    obtain ⟨q1, q2, q3⟩ := slots hext.grow hv
    have hnev : i ∉ (st L.length).evs := fun he => by
      have h1 := hw.evs_down (i := i + 1) (j := L.length) (by omega) (Nat.le_refl _) he (by omega)
      rw [hne] at h1
      have := hevs i (by omega) i h1; omega
    refine ⟨p, ρ', w', _, hst, ⟨dn', inv.le, ?_, inv.ver, hrel, inv.nx, ?_, ?_, q1, q2, q3, inv.ext.trans (hext.weaken (fun _ h => h.elim))⟩⟩
    · intro e he
      have := inv.cur e he
      constructor
      · rintro (rfl | h)
        · exact absurd he hnev
        · exact this.1 h
      · intro h; exact .inr (this.2 h)
    · rintro a ob hm (rfl | ha) hno
      · exact absurd hm (hnm ob)
      · exact (inv.unr a ob hm ha hno).ext hext inv.rel
    · intro j hj hnj
      have h1 := inv.ids j hj (fun h => hnj (.inr h))
      cases hx : ρ' (base + j) with
      | none => rfl
      | some bb =>
        rcases hext.new _ _ hx with h2 | ⟨h2 | h2, _⟩
        · rw [h1] at h2; cases h2
        · exact h2.elim
        · have := inv.nx; omega
  have notmk : (cls o.op ≠ .make ∨ wantedA (st i).env L o ≠ some true) → ∀ ob, ¬ Makes T base L st vs i ob := by
    rintro h1 ob ⟨q, hq, h2, h3, _⟩
    rw [ho] at hq; cases hq
    rcases h1 with h1 | h1
    · exact h1 h3
    · exact h1 h2
  have hse : ∀ s1, StepD T rec n base L i (mk L i) o (st i) (vs i) (st (i + 1)).env s1 → s1 = st (i + 1) → True := fun _ _ _ => trivial
  generalize he1 : (st (i + 1)).env = e1 at hs hput
  generalize hs1 : st (i + 1) = s1 at hs
  cases hs with
  | skip hwant hv =>
    have hwd := wantedA_ok (n := n) (ρ := ρ) (w := w) (by rw [hL]; exact hwant) hg
    have hne : (st (i + 1)).evs = (st i).evs := by rw [hs1]
    exact quiet hne (notmk (.inr (by rw [hwant]; simp))) (.one (fs_op_skip hoi hwd)) inv.rel (by rw [hv]; exact noVal_ok _ _) (Ext.refl _ _ _ _)
  | pure hwant hc q he =>
    have hwd := wantedA_ok (n := n) (ρ := ρ) (w := w) (by rw [hL]; exact hwant) hg
    have hne : (st (i + 1)).evs = (st i).evs := by rw [hs1]
    have he2 : evOp T (st i).env (st p).h 0 o.op = some (vs i, (st p).h) := pure_heap hc he
    have hmk := cls_makes (.inl hc)
    have hdo : doOp T rec (st i).env (st p).h 0 o.op = some (vs i, (st p).h) := by
      unfold doOp
      split
      · rename_i hop; rw [hop] at hc; simp only [cls] at hc; cases hc
      · exact he2
    rw [doOp_rid hmk 0 (st p).h.next] at hdo
    obtain ⟨c, ρ', w', s1', s2, s3, s4⟩ := doOp_ok hT hrec hdo inv.rel (fun hm => by rw [hmk] at hm; cases hm) hoi rfl hwd hE cs
    exact quiet hne (notmk (.inl (by rw [hc]; simp))) s1' s2 s3 (s4.weaken (fun id hid => .inr (by rw [hid]; exact Nat.le_refl _)))
  | read hwant hc =>
    have hwd := wantedA_ok (n := n) (ρ := ρ) (w := w) (by rw [hL]; exact hwant) hg
    have hne : (st (i + 1)).evs = (st i).evs := by rw [hs1]
    have hrd : (⟨i, o.op, (st i).env, vs i⟩ : Rd) ∈ (st L.length).rds := by
      refine hw.rds_up (i := i + 1) (by omega) (Nat.le_refl _) ?_
      rw [hs1]; simp
    have hr1 := readsOk_mem hro _ hrd
    have hal : allowed (masks L []) i ((nth (masks L []) i).getD 0) p (st L.length).evs = true := by
      refine allowed_mem fun e he => ⟨fun hb => ?_, fun hb => ?_⟩
      · exact (inv.cur e he).1 (hmS e hb)
      · rcases Nat.lt_or_ge e p with hlt | hge
        · exact absurd ((inv.dn e ((inv.cur e he).2 hlt)).2 i hb) hS
        · exact hge
    obtain ⟨q, he2⟩ := readOk_mem hr1 p (st p).h inv.ver hal
    have hq := read_heap hc he2
    subst hq
    have hmk := cls_makes (.inr hc)
    have hdo : doOp T rec (st i).env (st p).h 0 o.op = some (vs i, (st p).h) := by
      unfold doOp
      split
      · rename_i hop; rw [hop] at hc; simp only [cls] at hc; cases hc
      · exact he2
    rw [doOp_rid hmk 0 (st p).h.next] at hdo
    obtain ⟨c, ρ', w', s1', s2, s3, s4⟩ := doOp_ok hT hrec hdo inv.rel (fun hm => by rw [hmk] at hm; cases hm) hoi rfl hwd hE cs
    exact quiet hne (notmk (.inl (by rw [hc]; simp))) s1' s2 s3 (s4.weaken (fun id hid => .inr (by rw [hid]; exact Nat.le_refl _)))
  | make hwant hc ob he =>
    have hwd := wantedA_ok (n := n) (ρ := ρ) (w := w) (by rw [hL]; exact hwant) hg
    have hne : (st (i + 1)).evs = (st i).evs := by rw [hs1]
    have hnev : i ∉ (st L.length).evs := fun he => by
      have h1 := hw.evs_down (i := i + 1) (j := L.length) (by omega) (Nat.le_refl _) he (by omega)
      rw [hne] at h1
      have := hevs i (by omega) i h1; omega
    have hid := inv.ids i hi hS
    have hlt : base + i < (st p).h.next := by have := inv.nx; omega
    obtain ⟨c, dv, k1, k2, k3⟩ := mkOp_ok hT he (ρ := ρ) (w := w) hE o rfl
    obtain ⟨n1, n2, n3⟩ := inv.rel.side (w' := w.alloc c) (c := c) hid hlt rfl rfl rfl rfl
    have hnd : ∀ q, o.op ≠ .defer q := fun q hq => by rw [hq] at hc; simp only [cls] at hc; cases hc
    have hv := k3 _ n2.mono n3
    obtain ⟨q1, q2, q3⟩ := slots n2.grow hv
    refine ⟨p, _, w.alloc c, _, .one (by rw [← fr_finish hoi]; exact fs_value hoi hwd hnd (.inl k2)), ⟨dn', inv.le, ?_, inv.ver, n1, inv.nx, ?_, ?_, q1, q2, q3, inv.ext.trans (n2.weaken (fun id hid' => .inl (by rw [hid']; omega)))⟩⟩
    · intro e he'
      have := inv.cur e he'
      constructor
      · rintro (rfl | h)
        · exact absurd he' hnev
        · exact this.1 h
      · intro h; exact .inr (this.2 h)
    · rintro a ob' hm (rfl | ha) hno
      · have hob : ob' = ob := by
          obtain ⟨q, hq, _, _, h4⟩ := hm
          rw [ho] at hq; cases hq
          rw [he] at h4; cases h4; rfl
        subst hob
        have hsz : w0.heap.size ≤ w.heap.size := inv.ext.size
        refine ⟨w.heap.size, c, n3, by show (w.heap.push c)[w.heap.size]? = some c; simp, k1.mono n2.grow, ?_, ?_, hsz⟩
        · intro hown
          rcases n2.own _ hown with h5 | h5
          · obtain ⟨id, oi, h6, h7⟩ := hown
            by_cases hid' : id = base + a
            · obtain ⟨bb, cc, h8, _⟩ := inv.rel.obj _ _ h6
              rw [hid', hid] at h8; cases h8
            · simp only [hid', if_false] at h7
              have := inv.rel.bound _ _ h7; omega
          · obtain ⟨id, oi, h6, h7⟩ := h5
            have := inv.rel.bound _ _ h7; omega
        · intro j hj
          by_cases hid' : j = base + a
          · exact hid'
          · simp only [hid', if_false] at hj
            have := inv.rel.bound _ _ hj; omega
      · exact (inv.unr a ob' hm ha hno).ext n2 inv.rel
    · intro j hj hnj
      have h1 := inv.ids j hj (fun h => hnj (.inr h))
      have h2 : base + j ≠ base + i := fun e => hnj (.inl (by omega))
      simp only [h2, if_false]; exact h1
  | act hwant hc hch h' he =>
    have hwd := wantedA_ok (n := n) (ρ := ρ) (w := w) (by rw [hL]; exact hwant) hg
    have hev1 : (st (i + 1)).evs = i :: (st i).evs := by rw [hs1]
    have hiev : i ∈ (st L.length).evs := hw.evs_up (i := i + 1) (by omega) (Nat.le_refl _) (by rw [hev1]; simp)
    have hpi : p ≤ i := by
      rcases Nat.lt_or_ge i p with h | h
      · exact absurd ((inv.cur i hiev).2 h) hS
      · exact h
    -- the acting ones ahead are done
    have hahead : ∀ e, e ∈ (st L.length).evs → e < i → e < p := by
      intro e he' hlt
      have h1 := hw.evs_down (i := i) (j := L.length) (by omega) (Nat.le_refl _) he' hlt
      cases hes : (st i).evs with
      | nil => rw [hes] at h1; cases h1
      | cons e0 es =>
        have h2 := hch e0 es hes
        have h3 := hw.evs_head h0e i (by omega) e0 es hes e h1
        have h4 : e0 ∈ (st L.length).evs := hw.evs_up (i := i) (by omega) (Nat.le_refl _) (by rw [hes]; simp)
        have := (inv.cur e0 h4).1 (hmS e0 h2)
        omega
    have hheap : (st i).h = (st p).h := hw.heap_same h0e hpi (by omega) (fun e he' => hahead e (hw.evs_up (by omega) (Nat.le_refl _) he') (hevs i (by omega) e he'))
    rw [hheap] at he
    have hpend : ∀ q ∈ (st i).pend, (mk L i).testBit q.1 = true → Ready ρ w (st p).h w0.heap.size (base + q.1) q.2 := by
      rintro ⟨a, ob⟩ hq hb
      obtain ⟨a1, a2, a3⟩ := (hw.pend_mem h0e h0p i (by omega) a ob).1 hq
      refine inv.unr a ob a2 (hmS a hb) fun e he' hlt => ?_
      rcases Nat.lt_or_ge a e with hae | hae
      · exact a3 e (hw.evs_down (i := i) (by omega) (Nat.le_refl _) he' (by omega)) hae
      · cases hx : (mk L e).testBit a with
        | false => rfl
        | true =>
          -- a would be ahead of e: it is not
          exfalso
          have hel : e < L.length := by omega
          have hlt' : a < e := by
            obtain ⟨oe, hoe⟩ : ∃ oe, L[e]? = some oe := ⟨L[e], by simp [hel]⟩
            have : ∀ (m : Nat), m ≤ e → ∀ om, L[m]? = some om → ∀ j, (mk L m).testBit j = true → j < m := by
              intro m
              induction m using Nat.strongRecOn with
              | _ m ih =>
                intro hm om hom j hj
                have hed := (okOpers_at L 0 hok m om hom).1
                rw [Nat.zero_add] at hed
                obtain ⟨eg, heg, hbg, hj'⟩ := mask_bit hom hed hj
                have hon : eg.on < m := by
                  have := List.all_eq_true.1 hed eg heg
                  simp only [hbg, Bool.not_true, Bool.false_or] at this
                  exact blt_lt this
                rcases hj' with hj' | hj'
                · omega
                · have hon' : eg.on < L.length := by omega
                  have := ih eg.on hon (by omega) L[eg.on] (by simp [hon']) j hj'
                  omega
            exact this e (Nat.le_refl _) oe hoe a hx
          omega
    have hnodup : ((st i).pend.map (·.1)).Nodup := by
      have : ∀ m, m ≤ L.length → ((st m).pend.map (·.1)).Nodup := by
        intro m
        induction m with
        | zero => intro _; rw [h0p]; simp
        | succ m ih =>
          intro hm
          have i1 := ih (by omega)
          obtain ⟨om, hom, hpm, hsm⟩ := hw.at (j := m) (by omega)
          generalize (st (m + 1)).env = e2 at hsm
          generalize hs2 : st (m + 1) = s2 at hsm ⊢
          cases hsm with
          | skip _ _ => exact i1
          | pure _ _ _ _ => exact i1
          | read _ _ => exact i1
          | make _ _ ob' _ =>
            simp only [List.map_cons, List.nodup_cons]
            refine ⟨fun hmem => ?_, i1⟩
            obtain ⟨q, hq, hqe⟩ := List.mem_map.1 hmem
            obtain ⟨qa, qb⟩ := q
            have := ((hw.pend_mem h0e h0p m (by omega) qa qb).1 hq).1
            simp only at hqe
            omega
          | act _ _ _ _ _ =>
            have hk : ∀ (mm : Nat) (l : List (Nat × AObj)), (l.map (·.1)).Nodup → ((keep mm l).map (·.1)).Nodup := by
              intro mm l
              induction l with
              | nil => intro _; simp [keep]
              | cons q l ihl =>
                intro hnl
                obtain ⟨qa, qb⟩ := q
                simp only [List.map_cons, List.nodup_cons] at hnl
                simp only [keep]
                split
                · exact ihl hnl.2
                · simp only [List.map_cons, List.nodup_cons]
                  refine ⟨fun hm' => hnl.1 ?_, ihl hnl.2⟩
                  obtain ⟨z, hz, hze⟩ := List.mem_map.1 hm'
                  exact hze ▸ List.mem_map_of_mem (mem_keep.1 hz).1
            exact hk _ _ i1
      exact this i (by omega)
    obtain ⟨r1, r2, r3⟩ := release_ok (st i).pend (st p).h inv.rel hnodup hpend
    have hid := inv.ids i hi hS
    obtain ⟨c, ρ', w', s1', s2, s3, s4⟩ := doOp_ok hT hrec he r1 (fun _ => ⟨hid, by rw [r2]; have := inv.nx; omega⟩) hoi rfl hwd hE cs
    obtain ⟨q1, q2, q3⟩ := slots s4.grow s3
    have hst1 : (st (i + 1)).h = h' := by rw [hs1]
    have hext1 : Ext (fun id => base ≤ id) ρ0 h0 w0 ρ (release base (mk L i) (st i).pend (st p).h) w :=
      { inv.ext with
        own := fun x hx => by
          rcases r3 x hx with h | ⟨h, _⟩
          · exact inv.ext.own x h
          · exact .inl h
        next := by rw [r2]; exact inv.ext.next }
    refine ⟨i + 1, ρ', w', _, s1', ⟨dn', by omega, ?_, ?_, by rw [hst1]; exact s2, ?_, ?_, ?_, q1, q2, q3, ?_⟩⟩
    · intro e he'
      constructor
      · rintro (rfl | h)
        · omega
        · have := (inv.cur e he').1 h; omega
      · intro h
        rcases Nat.lt_or_ge e i with h2 | h2
        · exact .inr ((inv.cur e he').2 (hahead e he' h2))
        · exact .inl (by omega)
    · exact hw.vers_mem (i := i + 1) (by omega) (Nat.le_refl _) (hw.vers_act (e := i) hi hev1)
    · rw [hst1]
      have := s4.next
      rw [r2] at this
      have := inv.nx; omega
    · rintro a ob hm ha hno
      have hai : a ≠ i := by
        rintro rfl
        exact notmk (.inl (by rw [hc]; simp)) ob hm
      have hSa : S a := ha.resolve_left hai
      have hold := inv.unr a ob hm hSa (fun e he' hlt => hno e he' (by omega))
      have hnoti : (mk L i).testBit a = false := hno i hiev (by omega)
      rw [hst1]
      -- it is not among what was taken in
      have hready : Ready ρ w (release base (mk L i) (st i).pend (st p).h) w0.heap.size (base + a) ob := by
        obtain ⟨bb, cc, h1, h2, h3, h4, h5, h6⟩ := hold.ex
        refine ⟨bb, cc, h1, h2, h3, ?_, h5, h6⟩
        intro hown
        rcases r3 bb hown with h7 | ⟨_, q, hq, hqb, hqe⟩
        · exact h4 h7
        · have := h5 _ hqe
          have : q.1 = a := by omega
          rw [this] at hqb
          rw [hqb] at hnoti; cases hnoti
      exact hready.ext s4 r1
    · intro j hj hnj
      have h1 := inv.ids j hj (fun h => hnj (.inr h))
      have hji : j ≠ i := fun e => hnj (.inl e)
      cases hx : ρ' (base + j) with
      | none => rfl
      | some bb =>
        rcases s4.new _ _ hx with h2 | ⟨h2 | h2, _⟩
        · rw [h1] at h2; cases h2
        · omega
        · rw [r2] at h2; have := inv.nx; omega
    · rw [hst1]
      exact hext1.trans (s4.weaken (fun id hid' => .inl (by rw [hid']; omega)))

end
end Cv
