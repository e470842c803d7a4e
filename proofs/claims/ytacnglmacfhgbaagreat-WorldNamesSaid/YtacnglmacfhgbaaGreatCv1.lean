/-
  An evaluator over abstract values, of use to every statement of this seat: the evaluator of operations, regions, code and calls, and what its values stand for. No condition.
-/
import Derived.Calls
import Derived.Laws.Entries
import Derived.Below

/- The engine's ground: trees, abstract values, abstract memory, and what they stand for in a world. -/
set_option linter.unusedVariables false
namespace Cv
open Go
noncomputable section

/-! ### Trees keyed by numbers -/
inductive Tree (α : Type) where
  | lf
  | nd (v : Option α) (l r : Tree α)

namespace Tree
variable {α β : Type}

/-- one step on the way to a number -/
def getStep (v : Option α) (l r : Nat → Option α) (n : Nat) : Option α :=
  @Bool.rec (fun _ => Option α) (@Bool.rec (fun _ => Option α) (r (Nat.sub (Nat.div n 2) 1)) (l (Nat.div n 2)) (Nat.beq (Nat.mod n 2) 1)) v (Nat.beq n 0)

def get (t : Tree α) : Nat → Option α :=
  @Tree.rec α (fun _ => Nat → Option α) (fun _ => none) (fun v _ _ l r => getStep v l r) t

def putLf (ih : Tree α → Nat → Option α → Tree α) (n : Nat) (x : Option α) : Tree α :=
  @Bool.rec (fun _ => Tree α) (@Bool.rec (fun _ => Tree α) (nd none lf (ih lf (Nat.sub (Nat.div n 2) 1) x)) (nd none (ih lf (Nat.div n 2) x) lf) (Nat.beq (Nat.mod n 2) 1)) (nd x lf lf) (Nat.beq n 0)

def putNd (ih : Tree α → Nat → Option α → Tree α) (v : Option α) (l r : Tree α) (n : Nat) (x : Option α) : Tree α :=
  @Bool.rec (fun _ => Tree α) (@Bool.rec (fun _ => Tree α) (nd v l (ih r (Nat.sub (Nat.div n 2) 1) x)) (nd v (ih l (Nat.div n 2) x) r) (Nat.beq (Nat.mod n 2) 1)) (nd x l r) (Nat.beq n 0)

def put (f : Nat) : Tree α → Nat → Option α → Tree α :=
  @Nat.rec (fun _ => Tree α → Nat → Option α → Tree α) (fun _ _ _ => lf) (fun _ ih t => @Tree.rec α (fun _ => Nat → Option α → Tree α) (putLf ih) (fun v l r _ _ => putNd ih v l r) t) f

abbrev set (t : Tree α) (n : Nat) (x : α) : Tree α := put 24 t n (some x)
abbrev del (t : Tree α) (n : Nat) : Tree α := put 24 t n none

theorem get_nd (v : Option α) (l r : Tree α) (n : Nat) : (nd v l r).get n = if n = 0 then v else if n % 2 = 1 then l.get (n / 2) else r.get (n / 2 - 1) := by
  have hb : ∀ a b : Nat, Nat.beq a b = decide (a = b) := fun a b => by
    cases h : Nat.beq a b
    · have := Nat.ne_of_beq_eq_false h; simp [this]
    · have := Nat.eq_of_beq_eq_true h; simp [this]
  show @Bool.rec (fun _ => Option α) (@Bool.rec (fun _ => Option α) (r.get (n / 2 - 1)) (l.get (n / 2)) (Nat.beq (n % 2) 1)) v (Nat.beq n 0) = _
  rw [hb, hb]
  by_cases h0 : n = 0
  · simp [h0]
  · by_cases h1 : n % 2 = 1 <;> simp [h0, h1]

theorem put_lf (f n : Nat) (x : Option α) : put (f + 1) lf n x = if n = 0 then nd x lf lf else if n % 2 = 1 then nd none (put f lf (n / 2) x) lf else nd none lf (put f lf (n / 2 - 1) x) := by
  have hb : ∀ a b : Nat, Nat.beq a b = decide (a = b) := fun a b => by
    cases h : Nat.beq a b
    · have := Nat.ne_of_beq_eq_false h; simp [this]
    · have := Nat.eq_of_beq_eq_true h; simp [this]
  show @Bool.rec (fun _ => Tree α) (@Bool.rec (fun _ => Tree α) (nd none lf (put f lf (n / 2 - 1) x)) (nd none (put f lf (n / 2) x) lf) (Nat.beq (n % 2) 1)) (nd x lf lf) (Nat.beq n 0) = _
  rw [hb, hb]
  by_cases h0 : n = 0
  · simp [h0]
  · by_cases h1 : n % 2 = 1 <;> simp [h0, h1]

theorem put_nd (f n : Nat) (v : Option α) (l r : Tree α) (x : Option α) : put (f + 1) (nd v l r) n x = if n = 0 then nd x l r else if n % 2 = 1 then nd v (put f l (n / 2) x) r else nd v l (put f r (n / 2 - 1) x) := by
  have hb : ∀ a b : Nat, Nat.beq a b = decide (a = b) := fun a b => by
    cases h : Nat.beq a b
    · have := Nat.ne_of_beq_eq_false h; simp [this]
    · have := Nat.eq_of_beq_eq_true h; simp [this]
  show @Bool.rec (fun _ => Tree α) (@Bool.rec (fun _ => Tree α) (nd v l (put f r (n / 2 - 1) x)) (nd v (put f l (n / 2) x) r) (Nat.beq (n % 2) 1)) (nd x l r) (Nat.beq n 0) = _
  rw [hb, hb]
  by_cases h0 : n = 0
  · simp [h0]
  · by_cases h1 : n % 2 = 1 <;> simp [h0, h1]

theorem get_put (f : Nat) (t : Tree α) (n m : Nat) (x : Option α) (y : α) (h : (put f t n x).get m = some y) :
    (m = n ∧ x = some y) ∨ (m ≠ n ∧ t.get m = some y) := by
  induction f generalizing t n m with
  | zero =>
    have e : (put 0 t n x).get m = none := rfl
    rw [e] at h; cases h
  | succ f ih =>
    have hlf : ∀ k, (lf : Tree α).get k = none := fun _ => rfl
    have main : ∀ (v : Option α) (l r : Tree α), (∀ k, (nd v l r).get k = some y → t.get k = some y) → (if n = 0 then nd x l r else if n % 2 = 1 then nd v (put f l (n / 2) x) r else nd v l (put f r (n / 2 - 1) x)).get m = some y →
        (m = n ∧ x = some y) ∨ (m ≠ n ∧ t.get m = some y) := by
      intro v l r ht h
      by_cases h0 : n = 0
      · rw [if_pos h0, get_nd] at h
        by_cases m0 : m = 0
        · rw [if_pos m0] at h; exact .inl ⟨by omega, h⟩
        · rw [if_neg m0] at h
          exact .inr ⟨by omega, ht _ (by rw [get_nd, if_neg m0]; exact h)⟩
      · rw [if_neg h0] at h
        by_cases h1 : n % 2 = 1
        · rw [if_pos h1, get_nd] at h
          by_cases m0 : m = 0
          · rw [if_pos m0] at h
            exact .inr ⟨by omega, ht _ (by rw [get_nd, if_pos m0]; exact h)⟩
          · rw [if_neg m0] at h
            by_cases m1 : m % 2 = 1
            · rw [if_pos m1] at h
              rcases ih _ _ _ h with ⟨e, hx⟩ | ⟨ne, e⟩
              · exact .inl ⟨by omega, hx⟩
              · exact .inr ⟨by omega, ht _ (by rw [get_nd, if_neg m0, if_pos m1]; exact e)⟩
            · rw [if_neg m1] at h
              exact .inr ⟨by omega, ht _ (by rw [get_nd, if_neg m0, if_neg m1]; exact h)⟩
        · rw [if_neg h1, get_nd] at h
          by_cases m0 : m = 0
          · rw [if_pos m0] at h
            exact .inr ⟨by omega, ht _ (by rw [get_nd, if_pos m0]; exact h)⟩
          · rw [if_neg m0] at h
            by_cases m1 : m % 2 = 1
            · rw [if_pos m1] at h
              exact .inr ⟨by omega, ht _ (by rw [get_nd, if_neg m0, if_pos m1]; exact h)⟩
            · rw [if_neg m1] at h
              rcases ih _ _ _ h with ⟨e, hx⟩ | ⟨ne, e⟩
              · exact .inl ⟨by omega, hx⟩
              · exact .inr ⟨by omega, ht _ (by rw [get_nd, if_neg m0, if_neg m1]; exact e)⟩
    cases t with
    | lf =>
      rw [put_lf] at h
      refine main none lf lf (fun k hk => ?_) h
      rw [get_nd] at hk
      split at hk
      · cases hk
      · split at hk <;> simp [hlf] at hk
    | nd v l r =>
      rw [put_nd] at h
      exact main v l r (fun _ hk => hk) h

theorem get_set {t : Tree α} {n m : Nat} {x y : α} (h : (t.set n x).get m = some y) : (m = n ∧ x = y) ∨ (m ≠ n ∧ t.get m = some y) := by
  rcases get_put _ _ _ _ _ _ h with ⟨a, b⟩ | h
  · exact .inl ⟨a, by simpa using b⟩
  · exact .inr h

theorem get_del {t : Tree α} {n m : Nat} {y : α} (h : (t.del n).get m = some y) : m ≠ n ∧ t.get m = some y := by
  rcases get_put _ _ _ _ _ _ h with ⟨_, b⟩ | h
  · simp at b
  · exact h

/-- every second one, from the first on -/
def evens : List α → List α
  | [] => []
  | [a] => [a]
  | a :: _ :: l => a :: evens l

def odds (l : List α) : List α := evens l.tail

def ofList : Nat → List α → Tree α
  | 0, _ => lf
  | _ + 1, [] => lf
  | f + 1, a :: l => nd (some a) (ofList f (evens l)) (ofList f (odds l))

theorem get_evens : ∀ (l : List α) (k : Nat), (evens l)[k]? = l[2 * k]?
  | [], k => by simp [evens]
  | [a], k => by cases k <;> simp [evens]
  | a :: b :: l, 0 => by simp [evens]
  | a :: b :: l, k + 1 => by
    have := get_evens l k
    simp [evens, this, show 2 * (k + 1) = 2 * k + 1 + 1 by omega]

theorem get_odds (l : List α) (k : Nat) : (odds l)[k]? = l[2 * k + 1]? := by
  cases l with
  | nil => simp [odds, evens]
  | cons a l => simp [odds, get_evens]

theorem get_ofList (f : Nat) (l : List α) (n : Nat) (x : α) (h : (ofList f l).get n = some x) : l[n]? = some x := by
  induction f generalizing l n with
  | zero =>
    have e : (ofList 0 l).get n = none := by cases l <;> rfl
    rw [e] at h; cases h
  | succ f ih =>
    cases l with
    | nil =>
      have e : (ofList (f + 1) ([] : List α)).get n = none := rfl
      rw [e] at h; cases h
    | cons a l =>
      rw [ofList, get_nd] at h
      by_cases h0 : n = 0
      · rw [if_pos h0] at h; subst h0; simpa using h
      · rw [if_neg h0] at h
        by_cases h1 : n % 2 = 1
        · rw [if_pos h1] at h
          have := ih _ _ h
          rw [get_evens] at this
          have e : n = 2 * (n / 2) + 1 := by omega
          rw [e]; simpa using this
        · rw [if_neg h1] at h
          have := ih _ _ h
          rw [get_odds] at this
          have e : n = (2 * (n / 2 - 1) + 1) + 1 := by omega
          rw [e]; simpa using this
end Tree

/-! ### Abstract values -/

/-- how far a slice may grow: a number; or to the end of its block, whose elements have that many cells -/
inductive Cap where
  | ex (n : Nat)
  | toEnd (sz : Nat)

inductive AVal where
  | bool (b : Bool)
  | int (k : IntKind) (n : Int)
  | str (s : List Nat)
  | nilp
  | ptr (id off : Nat)
  | nils
  | sl (id off len : Nat) (cap : Cap)
  /-- an empty slice, not nil, of whatever base -/
  | emp
  | nilm
  | mp (id : Nat)
  | fn (f : FuncId) (first cap : List AVal)
  | yld (id : Nat)
  | nilf
  | ifc (t : TypeId) (v : AVal)
  | nili
  | agg (xs : List AVal)
  | tup (xs : List AVal)

inductive LState where | ready | busy | done | over

/-- an entry of a map: key, value, when it was born -/
structure AEnt where
  key : AVal
  val : AVal
  born : Nat

inductive AObj where
  /-- cells; grow: others may lie behind them in the block -/
  | cells (xs : List AVal) (ty : TypeId) (grow : Bool)
  | map (es : List AEnt) (clock : Nat)
  | iter (m : Option Nat) (since : Nat) (seen : List Nat) (stepped : Nat)
  | loop (st : LState) (pending : Option Code) (fn : FuncId) (env : Tree AVal) (size : Nat) (params : List Tmp) (assign body : Code) (defers : Nat)
  | dfr (taken : Bool)

structure Heap where
  t : Tree AObj
  next : Nat

def Heap.get (h : Heap) (id : Nat) : Option AObj := h.t.get id
def Heap.set (h : Heap) (id : Nat) (o : AObj) : Heap := ⟨h.t.set id o, h.next⟩
def Heap.del (h : Heap) (id : Nat) : Heap := ⟨h.t.del id, h.next⟩

theorem Heap.get_set {h : Heap} {n m : Nat} {x y : AObj} (e : (h.set n x).get m = some y) : (m = n ∧ x = y) ∨ (m ≠ n ∧ h.get m = some y) := Tree.get_set e
theorem Heap.get_del {h : Heap} {n m : Nat} {y : AObj} (e : (h.del n).get m = some y) : m ≠ n ∧ h.get m = some y := Tree.get_del e

/-! ### What they stand for -/

abbrev Ren := Nat → Option Nat

/-- a slice's concrete capacity is as its abstract one says -/
def CapOk (w : World) (b off c : Nat) : Cap → Prop
  | .ex n => c = n
  | .toEnd sz => 0 < sz ∧ ∃ e n, w.shape? b = some (e, n) ∧ n = off + c * sz

inductive V (ρ : Ren) (w : World) : AVal → Value → Prop where
  | bool (b : Bool) : V ρ w (.bool b) (.bool b)
  | int (k : IntKind) (n : Int) : V ρ w (.int k n) (.int k n)
  | str (s : ByteArray) (l : List Nat) (h : s.data.toList.map UInt8.toNat = l) : V ρ w (.str l) (.string s)
  | nilp : V ρ w .nilp (.pointer none)
  | ptr {id b : Nat} (off : Nat) (h : ρ id = some b) : V ρ w (.ptr id off) (.pointer (some ⟨b, off, none⟩))
  | nils : V ρ w .nils (.slice none 0 0)
  | sl {id b : Nat} (off len c : Nat) (cap : Cap) (h : ρ id = some b) (hl : len ≤ c) (hc : CapOk w b off c cap) : V ρ w (.sl id off len cap) (.slice (some ⟨b, off, none⟩) len c)
  | emp (a : Addr) (c : Nat) : V ρ w .emp (.slice (some a) 0 c)
  | nilm : V ρ w .nilm (.map none)
  | mp {id b : Nat} (h : ρ id = some b) : V ρ w (.mp id) (.map (some b))
  | fn (f : FuncId) (xs ys : List AVal) (cs ds : List Value) (hx : xs.length = cs.length) (hxs : ∀ (i : Nat) (x : AVal) (c : Value), xs[i]? = some x → cs[i]? = some c → V ρ w x c)
      (hy : ys.length = ds.length) (hys : ∀ (i : Nat) (x : AVal) (c : Value), ys[i]? = some x → ds[i]? = some c → V ρ w x c) : V ρ w (.fn f xs ys) (.func (.func f) cs.toArray ds.toArray)
  | yld {id b : Nat} (h : ρ id = some b) : V ρ w (.yld id) (.func (.yield b) #[] #[])
  | nilf : V ρ w .nilf .nilFunc
  | ifc (t : TypeId) (x : AVal) (c : Value) (h : V ρ w x c) : V ρ w (.ifc t x) (.iface t c)
  | nili : V ρ w .nili .nilIface
  | agg (xs : List AVal) (cs : List Value) (hx : xs.length = cs.length) (hxs : ∀ (i : Nat) (x : AVal) (c : Value), xs[i]? = some x → cs[i]? = some c → V ρ w x c) : V ρ w (.agg xs) (.agg cs.toArray)
  | tup (xs : List AVal) (cs : List Value) (hx : xs.length = cs.length) (hxs : ∀ (i : Nat) (x : AVal) (c : Value), xs[i]? = some x → cs[i]? = some c → V ρ w x c) : V ρ w (.tup xs) (.tuple cs.toArray)

/-- lists of values, one by one -/
def VL (ρ : Ren) (w : World) (xs : List AVal) (cs : List Value) : Prop := xs.length = cs.length ∧ ∀ (i : Nat) (x : AVal) (c : Value), xs[i]? = some x → cs[i]? = some c → V ρ w x c

/-- an environment's slots -/
def ER (ρ : Ren) (w : World) (t : Tree AVal) (n : Nat) (tmps : Array Value) : Prop :=
  tmps.size = n ∧ ∀ i x, t.get i = some x → ∃ c, tmps[i]? = some c ∧ V ρ w x c

def LState.conc : LState → LoopState
  | .ready => .ready
  | .busy => .busy
  | .done => .done
  | .over => .exhausted

/-- what an object lies as in its block -/
inductive OR (ρ : Ren) (w : World) : AObj → Obj → Prop where
  | cells (xs : List AVal) (ty : TypeId) (grow : Bool) (cs : List Value) (fz : Nat × Nat) (hg : grow = false → xs.length = cs.length) (hlen : xs.length ≤ cs.length)
      (hxs : ∀ (i : Nat) (x : AVal) (c : Value), xs[i]? = some x → cs[i]? = some c → V ρ w x c) (hfz : ∀ i, i < cs.length → ¬ (fz.1 ≤ i ∧ i < fz.2)) : OR ρ w (.cells xs ty grow) (.cells cs.toArray ty fz)
  | map (es : List AEnt) (clock : Nat) (cs : List MapEntry) (hl : es.length = cs.length)
      (hes : ∀ (i : Nat) (x : AEnt) (c : MapEntry), es[i]? = some x → cs[i]? = some c → V ρ w x.key c.key ∧ V ρ w x.val c.val ∧ x.born = c.born) : OR ρ w (.map es clock) (.map cs.toArray clock)
  | iterNil (since : Nat) (seen : List Nat) (stepped : Nat) : OR ρ w (.iter none since seen stepped) (.mapIter none since seen.toArray stepped)
  | iter {id b : Nat} (since : Nat) (seen : List Nat) (stepped : Nat) (h : ρ id = some b) : OR ρ w (.iter (some id) since seen stepped) (.mapIter (some b) since seen.toArray stepped)
  | loop {dd bd : Nat} (st : LState) (pending : Option Code) (fn : FuncId) (env : Tree AVal) (size : Nat) (params : List Tmp) (assign body : Code) (tmps : Array Value)
      (he : ER ρ w env size tmps) (hd : ρ dd = some bd) : OR ρ w (.loop st pending fn env size params assign body dd)
        (.loop { state := st.conc, pending := pending, fn := fn, tmps := tmps, params := params.toArray, assign := assign, body := body, defers := bd })
  | dfr (taken : Bool) : OR ρ w (.dfr taken) (.deferred (if taken then none else some []))

structure Rel (ρ : Ren) (h : Heap) (w : World) : Prop where
  obj : ∀ id o, h.get id = some o → ∃ b c, ρ id = some b ∧ w.heap[b]? = some c ∧ OR ρ w o c
  inj : ∀ i j oi oj b, h.get i = some oi → h.get j = some oj → ρ i = some b → ρ j = some b → i = j
  fresh : ∀ id, h.next ≤ id → ρ id = none
  bound : ∀ id b, ρ id = some b → b < w.heap.size

/-- is a block one of the abstract memory's? -/
def Owns (ρ : Ren) (h : Heap) (b : Nat) : Prop := ∃ id o, h.get id = some o ∧ ρ id = some b

/-- from one state to a later one; only: which ids may be new beside those from next on -/
structure Ext (only : Nat → Prop) (ρ : Ren) (h : Heap) (w : World) (ρ' : Ren) (h' : Heap) (w' : World) : Prop where
  mono : ∀ id b, ρ id = some b → ρ' id = some b
  new : ∀ id b, ρ' id = some b → ρ id = some b ∨ ((only id ∨ h.next ≤ id) ∧ (w.heap.size ≤ b ∨ Owns ρ h b))
  own : ∀ b, Owns ρ' h' b → w.heap.size ≤ b ∨ Owns ρ h b
  blk : ∀ b, b < w.heap.size → ¬ Owns ρ h b → w'.heap[b]? = w.heap[b]?
  shp : ∀ b e n, w.shape? b = some (e, n) → w'.shape? b = some (e, n)
  size : w.heap.size ≤ w'.heap.size
  tape : w'.tape = w.tape
  os : w'.os = w.os
  output : w'.output = w.output
  next : h.next ≤ h'.next

end
end Cv

/- The engine's evaluator: what each operation comes to, on abstract values and memory. -/
set_option linter.unusedVariables false
namespace Cv
open Go
noncomputable section

structure Tab where
  ty : Tree TypeInfo
  fn : Tree Func
  /-- the struct types that may be compared cell by cell -/
  sok : TypeId → Bool
  /-- what a function's loops keep of the memory behind a round -/
  gc : FuncId → Heap → Heap

def omap {α β : Type} (f : α → Option β) : List α → Option (List β)
  | [] => some []
  | a :: l => match f a with
    | none => none
    | some b => match omap f l with
      | none => none
      | some r => some (b :: r)

def nth {α : Type} (l : List α) : Nat → Option α :=
  @List.rec α (fun _ => Nat → Option α) (fun _ => none) (fun a _ ih n => @Nat.rec (fun _ => Option α) (some a) (fun k _ => ih k) n) l

/-- cells from a place on become others -/
def upd {α : Type} : List α → Nat → List α → List α
  | _ :: l, 0, c :: cs => c :: upd l 0 cs
  | l, 0, [] => l
  | a :: l, n + 1, cs => a :: upd l n cs
  | [], _, _ => []

def rep {α : Type} : Nat → List α → List α
  | 0, _ => []
  | n + 1, l => l ++ rep n l

def Tab.und (T : Tab) (t : TypeId) : Option TypeDesc :=
  match T.ty.get t with
  | some i => match i.desc with
    | .named _ u => match T.ty.get u with
      | some j => some j.desc
      | none => none
    | d => some d
  | none => none

def Tab.size (T : Tab) (t : TypeId) : Option Nat :=
  match T.ty.get t with
  | some i => some i.size
  | none => none

def Tab.bytes (T : Tab) (t : TypeId) : Option Nat :=
  match T.ty.get t with
  | some i => some i.bytes
  | none => none

def Tab.isAgg (T : Tab) (t : TypeId) : Option Bool :=
  match T.und t with
  | some (.struct _) => some true
  | some (.array _ _) => some true
  | some _ => some false
  | none => none

def strOf (s : ByteArray) : List Nat := s.data.toList.map UInt8.toNat

def ofScal : Value → Option AVal
  | .bool b => some (.bool b)
  | .int k n => some (.int k n)
  | .string s => some (.str (strOf s))
  | .pointer none => some .nilp
  | .slice none 0 0 => some .nils
  | .map none => some .nilm
  | .nilFunc => some .nilf
  | .nilIface => some .nili
  | _ => none

def ofConst : Value → Option AVal
  | .agg cs => match omap ofScal cs.toList with
    | some l => some (.agg l)
    | none => none
  | .tuple cs => match omap ofScal cs.toList with
    | some l => some (.tup l)
    | none => none
  | v => ofScal v

def Tab.zero (T : Tab) (t : TypeId) : Option AVal :=
  match T.ty.get t with
  | some i => match i.zero with
    | some v => ofConst v
    | none => none
  | none => none

def ev (env : Tree AVal) : Operand → Option AVal
  | .tmp t => env.get t
  | .const v => ofConst v
  | .func f => some (.fn f [] [])
  | .global _ => none

def evs (env : Tree AVal) (l : List Operand) : Option (List AVal) := omap (ev env) l

def AVal.cells : AVal → List AVal
  | .agg xs => xs
  | v => [v]

def AVal.scal : AVal → Bool
  | .agg _ => false
  | .tup _ => false
  | _ => true

def allScal : List AVal → Bool
  | [] => true
  | x :: l => match x.scal with
    | true => allScal l
    | false => false

/-! ### Memory -/

def rowOf (h : Heap) (id : Nat) : Option (List AVal) :=
  match h.get id with
  | some (.cells xs _ _) => some xs
  | _ => none

def takeN (xs : List AVal) (off n : Nat) : Option (List AVal) :=
  match Nat.ble (Nat.add off n) xs.length with
  | true => some ((xs.drop off).take n)
  | false => none

def opLoad (T : Tab) (h : Heap) (t : TypeId) : AVal → Option AVal
  | .ptr id off => match rowOf h id with
    | none => none
    | some xs => match T.isAgg t with
      | some true => match T.size t with
        | some s => match takeN xs off s with
          | some l => some (.agg l)
          | none => none
        | none => none
      | some false => nth xs off
      | none => none
  | _ => none

/-- writes cells into a row -/
def wr (h : Heap) (id off : Nat) (cs : List AVal) : Option Heap :=
  match allScal cs with
  | true => match h.get id with
    | some (.cells xs ty g) => match Nat.ble (Nat.add off cs.length) xs.length with
      | true => some (h.set id (.cells (upd xs off cs) ty g))
      | false => none
    | _ => none
  | false => none

def opStore (T : Tab) (h : Heap) (t : TypeId) (a v : AVal) : Option Heap :=
  match a with
  | .ptr id off => match T.size t with
    | some s => match Nat.beq v.cells.length s with
      | true => wr h id off v.cells
      | false => none
    | none => none
  | _ => none

def newCells (h : Heap) (rid : Nat) (cs : List AVal) (ty : TypeId) (g : Bool) : Heap := h.set rid (.cells cs ty g)

def opBox (rid : Nat) (t : TypeId) (v : AVal) : Option (AVal × AObj) :=
  match allScal v.cells with
  | true => some (.ptr rid 0, .cells v.cells t false)
  | false => none

/-! ### Fields, elements, slices -/

def opFieldAddr (T : Tab) (s : TypeId) (a : AVal) (f : Nat) : Option AVal :=
  match a with
  | .ptr id off => match T.und s with
    | some (.struct fs) => match nth fs.toList f with
      | some fd => match T.size fd.type with
        | some 0 => none
        | some _ => some (.ptr id (Nat.add off fd.offset))
        | none => none
      | none => none
    | _ => none
  | _ => none

def partOf (T : Tab) (t : TypeId) (cs : List AVal) (off : Nat) : Option AVal :=
  match T.isAgg t with
  | some true => match T.size t with
    | some s => match takeN cs off s with
      | some l => some (.agg l)
      | none => none
    | none => none
  | some false => nth cs off
  | none => none

def opField (T : Tab) (s : TypeId) (x : AVal) (f : Nat) : Option AVal :=
  match x with
  | .agg cs => match T.und s with
    | some (.struct fs) => match nth fs.toList f with
      | some fd => partOf T fd.type cs fd.offset
      | none => none
    | _ => none
  | _ => none

/-- an index within bounds -/
def idx (i : AVal) (len : Nat) : Option Nat :=
  match i with
  | .int _ (.ofNat n) => match Nat.blt n len with
    | true => some n
    | false => none
  | _ => none

/-- a bound that is at most one -/
def bnd (i : AVal) (y : Nat) : Option Nat :=
  match i with
  | .int _ (.ofNat n) => match Nat.ble n y with
    | true => some n
    | false => none
  | _ => none

def opIndexAddr (T : Tab) (t : TypeId) (x i : AVal) : Option AVal :=
  match T.und t, x with
  | some (.array len e), .ptr id off => match idx i len, T.size e with
    | some n, some s => some (.ptr id (Nat.add off (Nat.mul n s)))
    | _, _ => none
  | some (.slice e), .sl id off len _ => match idx i len, T.size e with
    | some n, some s => some (.ptr id (Nat.add off (Nat.mul n s)))
    | _, _ => none
  | _, _ => none

def opIndex (T : Tab) (t : TypeId) (x i : AVal) : Option AVal :=
  match T.und t, x with
  | some (.array len e), .agg cs => match idx i len, T.size e with
    | some n, some s => partOf T e cs (Nat.mul n s)
    | _, _ => none
  | some .string, .str l => match idx i l.length with
    | some n => match nth l n with
      | some b => some (.int .u8 (Int.ofNat b))
      | none => none
    | none => none
  | _, _ => none

def obnd (i : Option AVal) (d y : Nat) : Option Nat :=
  match i with
  | none => some d
  | some v => bnd v y

/-- the bounds of a slice: low, high, max; cap: what is known of the capacity -/
def bounds (len cap : Nat) (lo hi mx : Option AVal) : Option (Nat × Nat × Nat) :=
  match obnd mx cap cap with
  | none => none
  | some m => match mx, hi with
    | some _, none => none
    | _, _ => match obnd hi len m with
      | none => none
      | some h => match obnd lo 0 h with
        | none => none
        | some l => some (l, h, m)

def stepOff (off l m s : Nat) : Nat :=
  match Nat.beq m l with
  | true => off
  | false => Nat.add off (Nat.mul l s)

def opSlice (T : Tab) (h : Heap) (t : TypeId) (x : AVal) (lo hi mx : Option AVal) : Option AVal :=
  match T.und t, x with
  | some .string, .str l => match mx with
    | none => match bounds l.length l.length lo hi none with
      | some (a, b, _) => some (.str ((l.take b).drop a))
      | none => none
    | some _ => none
  | some (.slice e), .nils => match bounds 0 0 lo hi mx, T.size e with
    | some _, some _ => some .nils
    | _, _ => none
  | some (.slice e), .emp => match bounds 0 0 lo hi mx, T.size e with
    | some _, some _ => some .emp
    | _, _ => none
  | some (.slice e), .sl id off len (.ex c) => match bounds len c lo hi mx, T.size e with
    | some (a, b, m), some s => some (.sl id (stepOff off a m s) (Nat.sub b a) (.ex (Nat.sub m a)))
    | _, _ => none
  | some (.slice e), .sl id off len (.toEnd sz) => match rowOf h id, T.size e with
    | some xs, some s => match Nat.beq s sz with
      | true => match bounds len (Nat.div (Nat.sub xs.length off) sz) lo hi mx with
        | some (a, b, m) => match mx with
          | some _ => some (.sl id (stepOff off a m s) (Nat.sub b a) (.ex (Nat.sub m a)))
          | none => match Nat.beq a 0, Nat.blt a m with
            | true, _ => some (.sl id off b (.toEnd sz))
            | false, true => some (.sl id (Nat.add off (Nat.mul a s)) (Nat.sub b a) (.toEnd sz))
            | false, false => match Nat.beq (Nat.sub b a) 0 with
              | true => some .emp
              | false => none
        | none => none
      | false => none
    | _, _ => none
  | some (.array n e), .ptr id off => match bounds n n lo hi mx, T.size e with
    | some (a, b, m), some s => some (.sl id (stepOff off a m s) (Nat.sub b a) (.ex (Nat.sub m a)))
    | _, _ => none
  | _, _ => none

/-! ### Making aggregates -/

def fillAt (place : Nat → Option (Nat × Nat)) : List AVal → List (Nat × AVal) → Option (List AVal)
  | cs, [] => some cs
  | cs, (i, v) :: rest => match place i with
    | none => none
    | some (off, size) => match Nat.beq v.cells.length size, Nat.ble (Nat.add off v.cells.length) cs.length with
      | true, true => fillAt place (upd cs off v.cells) rest
      | _, _ => none

def opBuild (T : Tab) (t : TypeId) (ps : List (Nat × AVal)) : Option AVal :=
  match T.zero t with
  | some z => match T.und t with
    | some (.struct fs) => match omap (fun f : Field => match T.size f.type with | some s => some (f.offset, s) | none => none) fs.toList with
      | some pl => match fillAt (nth pl) z.cells ps with
        | some l => some (.agg l)
        | none => none
      | none => none
    | some (.array _ e) => match T.size e with
      | some s => match fillAt (fun i => some (Nat.mul i s, s)) z.cells ps with
        | some l => some (.agg l)
        | none => none
      | none => none
    | _ => none
  | none => none

def opBuildSlice (T : Tab) (rid : Nat) (t : TypeId) (len : Nat) (ps : List (Nat × AVal)) : Option (AVal × AObj) :=
  match T.und t with
  | some (.slice e) => match T.size e, T.zero e with
    | some s, some z => match Nat.beq z.cells.length s, Nat.blt 0 s, Nat.ble (Nat.mul len s) 16777216 with
      | true, true, true => match fillAt (fun i => some (Nat.mul i s, s)) (rep len z.cells) ps with
        | some l => match allScal l with
          | true => some (.sl rid 0 len (.ex len), .cells l e false)
          | false => none
        | none => none
      | _, _, _ => none
    | _, _ => none
  | _ => none

def opMakeSlice (T : Tab) (rid : Nat) (t : TypeId) (len cap : AVal) : Option (AVal × AObj) :=
  match T.und t, len, cap with
  | some (.slice e), .int _ (.ofNat l), .int _ (.ofNat c) => match T.size e, T.zero e, T.bytes e with
    | some s, some z, some by_ => match Nat.ble l c, Nat.ble c 1000000, Nat.ble (Nat.mul by_ c) 1000000000, Nat.beq z.cells.length s, Nat.blt 0 s, allScal z.cells with
      | true, true, true, true, true, true => some (.sl rid 0 l (.ex c), .cells (rep c z.cells) e false)
      | _, _, _, _, _, _ => none
    | _, _, _ => none
  | _, _, _ => none

/-! ### append, copy, clear, len, cap, max, min -/

/-- the first n elements' cells of a slice or a string -/
def firstOf (h : Heap) (s n : Nat) : AVal → Option (List AVal)
  | .nils => match n with
    | 0 => some []
    | _ => none
  | .emp => match n with
    | 0 => some []
    | _ => none
  | .sl id off len _ => match Nat.ble n len, rowOf h id with
    | true, some xs => takeN xs off (Nat.mul n s)
    | _, _ => none
  | .str l => some ((l.take n).map fun b => AVal.int .u8 (Int.ofNat b))
  | _ => none

def lenA : AVal → Option Nat
  | .nils => some 0
  | .emp => some 0
  | .sl _ _ len _ => some len
  | .str l => some l.length
  | _ => none

/-- what is appended: how many elements, and their cells -/
def appended (T : Tab) (h : Heap) (e : TypeId) (s : Nat) (xt : TypeId) (x : AVal) : Option (Nat × List AVal) :=
  match T.und xt with
  | some (.int _) => match x, T.zero e with
    | .int _ (.ofNat n), some z => match Nat.ble n 1000000, Nat.beq z.cells.length s with
      | true, true => some (n, rep n z.cells)
      | _, _ => none
    | _, _ => none
  | some _ => match lenA x with
    | some n => match firstOf h s n x with
      | some cs => some (n, cs)
      | none => none
    | none => none
  | none => none

def opAppend (T : Tab) (h : Heap) (rid : Nat) (ts xt : TypeId) (sv x : AVal) : Option (AVal × Heap) :=
  match T.und ts with
  | some (.slice e) => match T.size e, T.bytes e, T.zero e with
    | some s, some by_, some z => match Nat.blt 0 s, Nat.beq z.cells.length s, Nat.blt 0 by_ with
      | true, true, true => match appended T h e s xt x with
        | some (n, cs) => match allScal cs, Nat.beq cs.length (Nat.mul n s), Nat.ble (Nat.mul n by_) 1000000000 with
          | true, true, true => match sv with
            | .nils => match n with
              | 0 => some (.nils, h)
              | _ => some (.sl rid 0 n (.toEnd s), newCells h rid cs e true)
            | .emp => match n with
              | 0 => some (.emp, h)
              | _ => none
            | .sl id off len (.ex c) => match Nat.ble (Nat.add len n) c with
              | true => match wr h id (Nat.add off (Nat.mul len s)) cs with
                | some h' => some (.sl id off (Nat.add len n) (.ex c), h')
                | none => none
              | false => match firstOf h s len sv, Nat.ble (Nat.mul (Nat.add (Nat.mul 2 (Nat.add len n)) 1000) by_) 1000000000 with
                | some old, true => match allScal old with
                  | true => some (.sl rid 0 (Nat.add len n) (.toEnd s), newCells h rid (old ++ cs) e true)
                  | false => none
                | _, _ => none
            | .sl id off len (.toEnd sz) => match Nat.beq sz s, h.get id with
              | true, some (.cells xs ty g) => match Nat.ble (Nat.add off (Nat.mul (Nat.add len n) s)) xs.length with
                | true => match wr h id (Nat.add off (Nat.mul len s)) cs with
                  | some h' => some (.sl id off (Nat.add len n) (.toEnd sz), h')
                  | none => none
                | false => match Nat.beq off 0, Nat.beq (Nat.mul len s) xs.length, Nat.beq ty e, allScal xs, Nat.ble (Nat.mul (Nat.add (Nat.mul 2 (Nat.add len n)) 1000) by_) 1000000000 with
                  | true, true, true, true, true => some (.sl rid 0 (Nat.add len n) (.toEnd s), (newCells (h.del id) rid (xs ++ cs) e true))
                  | _, _, _, _, _ => none
              | _, _ => none
            | _ => none
          | _, _, _ => none
        | none => none
      | _, _, _ => none
    | _, _, _ => none
  | _ => none

def opCopy (T : Tab) (h : Heap) (ts : TypeId) (d x : AVal) : Option (AVal × Heap) :=
  match T.und ts with
  | some (.slice e) => match T.size e, lenA d, lenA x with
    | some s, some dl, some xl => match firstOf h s (min xl dl) x with
      | some cs => match d with
        | .nils => some (.int .i64 (Int.ofNat (min xl dl)), h)
        | .emp => some (.int .i64 (Int.ofNat (min xl dl)), h)
        | .sl id off _ _ => match wr h id off cs with
          | some h' => some (.int .i64 (Int.ofNat (min xl dl)), h')
          | none => none
        | _ => none
      | none => none
    | _, _, _ => none
  | _ => none

def opClear (T : Tab) (h : Heap) (ts : TypeId) (d : AVal) : Option Heap :=
  match T.und ts with
  | some (.slice e) => match d with
    | .nils => some h
    | .emp => some h
    | .sl id off len _ => match len with
      | 0 => some h
      | _ => match T.zero e, T.size e with
        | some z, some s => match Nat.beq z.cells.length s with
          | true => wr h id off (rep len z.cells)
          | false => none
        | _, _ => none
    | _ => none
  | _ => none

def opLen (T : Tab) (h : Heap) (t : TypeId) (x : AVal) : Option AVal :=
  match T.und t, x with
  | some .string, .str l => some (.int .i64 (Int.ofNat l.length))
  | some (.array n _), _ => some (.int .i64 (Int.ofNat n))
  | some (.slice _), .nils => some (.int .i64 0)
  | some (.slice _), .emp => some (.int .i64 0)
  | some (.slice _), .sl _ _ n _ => some (.int .i64 (Int.ofNat n))
  | some (.map _ _), .nilm => some (.int .i64 0)
  | some (.map _ _), .mp id => match h.get id with
    | some (.map es _) => some (.int .i64 (Int.ofNat es.length))
    | _ => none
  | _, _ => none

def opCap (T : Tab) (t : TypeId) (x : AVal) : Option AVal :=
  match T.und t, x with
  | some (.slice _), .nils => some (.int .i64 0)
  | some (.slice _), .sl _ _ _ (.ex c) => some (.int .i64 (Int.ofNat c))
  | _, _ => none

def opMax : List AVal → Option AVal
  | [.int k a, .int _ b] => some (.int k (if b > a then b else a))
  | [.int k a, .int _ b, .int _ c] => some (.int k (if c > (if b > a then b else a) then c else (if b > a then b else a)))
  | _ => none

def opMin : List AVal → Option AVal
  | [.int k a, .int _ b] => some (.int k (if b < a then b else a))
  | [.int k a, .int _ b, .int _ c] => some (.int k (if c < (if b < a then b else a) then c else (if b < a then b else a)))
  | _ => none

/-! ### Numbers, comparisons, conversions -/

def wrapK (k : IntKind) (n : Int) : Int := k.wrap n

def intOp (op : BinOp) (k : IntKind) (a b : Int) : Option AVal :=
  match op with
  | .add => some (.int k (wrapK k (a + b)))
  | .sub => some (.int k (wrapK k (a - b)))
  | .mul => some (.int k (wrapK k (a * b)))
  | .quo => if b = 0 then none else some (.int k (wrapK k (a.tdiv b)))
  | .rem => if b = 0 then none else some (.int k (a.tmod b))
  | .and => some (.int k (wrapK k ((BitVec.ofInt k.bits a &&& BitVec.ofInt k.bits b).toNat)))
  | .or => some (.int k (wrapK k ((BitVec.ofInt k.bits a ||| BitVec.ofInt k.bits b).toNat)))
  | .xor => some (.int k (wrapK k ((BitVec.ofInt k.bits a ^^^ BitVec.ofInt k.bits b).toNat)))
  | .andNot => some (.int k (wrapK k ((BitVec.ofInt k.bits a &&& ~~~ BitVec.ofInt k.bits b).toNat)))
  | .eql => some (.bool (a == b))
  | .neq => some (.bool (a != b))
  | .lss => some (.bool (a < b))
  | .leq => some (.bool (a ≤ b))
  | .gtr => some (.bool (a > b))
  | .geq => some (.bool (a ≥ b))
  | _ => none

def natsEq : List Nat → List Nat → Bool
  | [], [] => true
  | a :: l, b :: m => match Nat.beq a b with
    | true => natsEq l m
    | false => false
  | _, _ => false

/-- are the fields the same, one by one? -/
def eqFs (T : Tab) (f : TypeId → AVal → AVal → Option Bool) (xs ys : List AVal) : List Field → Option Bool
  | [] => some true
  | fd :: fs => match partOf T fd.type xs fd.offset, partOf T fd.type ys fd.offset with
    | some a, some b => match f fd.type a b with
      | some true => eqFs T f xs ys fs
      | some false => some false
      | none => none
    | _, _ => none

/-- whether two values of plain types, or of structs of such, are the same -/
def eqV (T : Tab) : Nat → TypeId → AVal → AVal → Option Bool
  | 0, _, _, _ => none
  | d + 1, t, x, y => match T.und t, x, y with
    | some (.int _), .int k a, .int k' b => if k = k' then some (a == b) else none
    | some .bool, .bool a, .bool b => some (a == b)
    | some .string, .str a, .str b => some (natsEq a b)
    | some (.struct fs), .agg xs, .agg ys => match T.sok t with
      | true => eqFs T (eqV T d) xs ys fs.toList
      | false => none
    | _, _, _ => none

def opEq (T : Tab) (t : TypeId) (x y : AVal) : Option Bool :=
  match T.und t, x, y with
  | some .bool, .bool a, .bool b => some (a == b)
  | some (.pointer _), .nilp, .nilp => some true
  | some (.pointer _), .nilp, .ptr _ _ => some false
  | some (.pointer _), .ptr _ _, .nilp => some false
  | some (.slice _), .nils, .nils => some true
  | some (.slice _), .nils, .sl _ _ _ _ => some false
  | some (.slice _), .nils, .emp => some false
  | some (.slice _), .emp, .nils => some false
  | some (.slice _), .sl _ _ _ _, .nils => some false
  | some (.map _ _), .nilm, .nilm => some true
  | some (.map _ _), .nilm, .mp _ => some false
  | some (.map _ _), .mp _, .nilm => some false
  | some (.func _ _ _), .nilf, .nilf => some true
  | some (.func _ _ _), .nilf, .fn _ _ _ => some false
  | some (.func _ _ _), .fn _ _ _, .nilf => some false
  | some (.struct _), .agg xs, .agg ys => eqV T 5 t (.agg xs) (.agg ys)
  | _, _, _ => none

def opBin (T : Tab) (op : BinOp) (t : TypeId) (x y : AVal) : Option AVal :=
  match x, y with
  | .int k a, .int k' b => match op with
    | .shl => if b < 0 then none else some (.int k (wrapK k (a * 2 ^ (min b.toNat k.bits))))
    | .shr => if b < 0 then none else some (.int k (a.fdiv (2 ^ (min b.toNat k.bits))))
    | _ => if k = k' then intOp op k a b else none
  | .str a, .str b => match op with
    | .add => match Nat.ble (Nat.add a.length b.length) 4611686018427387904 with
      | true => some (.str (a ++ b))
      | false => none
    | .eql => some (.bool (natsEq a b))
    | .neq => some (.bool (!natsEq a b))
    | _ => none
  | x, y => match op with
    | .eql => match opEq T t x y with
      | some b => some (.bool b)
      | none => none
    | .neq => match opEq T t x y with
      | some b => some (.bool (!b))
      | none => none
    | _ => none

def opUn (op : UnOp) (x : AVal) : Option AVal :=
  match op, x with
  | .not, .bool b => some (.bool (!b))
  | .neg, .int k n => some (.int k (wrapK k (0 - n)))
  | .xor, .int k n => intOp .xor k (if k.signed then -1 else k.max) n
  | _, _ => none

def byteOfCell? : AVal → Option Nat
  | .int .u8 n => some (n.toNat % 256)
  | _ => none

def opConvert (T : Tab) (h : Heap) (rid : Nat) (src dst : TypeId) (x : AVal) : Option (AVal × Heap) :=
  match T.und src, T.und dst, x with
  | some _, some (.int k), .int _ n => some (.int k (wrapK k n), h)
  | some _, some .string, .str l => some (.str l, h)
  | some .string, some (.slice e), .str l => match T.und e with
    | some (.int .u8) => some (.sl rid 0 l.length (.toEnd 1), newCells h rid (l.map fun b => AVal.int .u8 (Int.ofNat b)) e true)
    | _ => none
  | some (.slice e), some .string, .nils => match T.und e with
    | some (.int .u8) => some (.str [], h)
    | _ => none
  | some (.slice e), some .string, .sl id off len _ => match T.und e, rowOf h id with
    | some (.int .u8), some xs => match takeN xs off len with
      | some cs => match omap byteOfCell? cs with
        | some l => some (.str l, h)
        | none => none
      | none => none
    | _, _ => none
  | _, _, _ => none

mutual
def AVal.beq : AVal → AVal → Bool
  | .bool a, .bool b => a == b
  | .int k a, .int k' b => match decide (k = k') with
    | true => decide (a = b)
    | false => false
  | .str a, .str b => natsEq a b
  | .nilp, .nilp => true
  | .ptr i o, .ptr j p => match Nat.beq i j with
    | true => Nat.beq o p
    | false => false
  | .nils, .nils => true
  | .sl i o l (.ex c), .sl j p m (.ex d) => Nat.beq i j && Nat.beq o p && Nat.beq l m && Nat.beq c d
  | .sl i o l (.toEnd c), .sl j p m (.toEnd d) => Nat.beq i j && Nat.beq o p && Nat.beq l m && Nat.beq c d
  | .emp, .emp => true
  | .nilm, .nilm => true
  | .mp i, .mp j => Nat.beq i j
  | .fn f a b, .fn g c d => Nat.beq f g && beqL a c && beqL b d
  | .yld i, .yld j => Nat.beq i j
  | .nilf, .nilf => true
  | .ifc t v, .ifc u w => Nat.beq t u && AVal.beq v w
  | .nili, .nili => true
  | .agg a, .agg b => beqL a b
  | .tup a, .tup b => beqL a b
  | _, _ => false
def beqL : List AVal → List AVal → Bool
  | [], [] => true
  | a :: l, b :: m => match AVal.beq a b with
    | true => beqL l m
    | false => false
  | _, _ => false
end

/-! ### Maps -/

def findE (T : Tab) (kt : TypeId) (k : AVal) : List AEnt → Nat → Option (Option (Nat × AEnt))
  | [], _ => some none
  | e :: es, i => match eqV T 5 kt k e.key with
    | some true => some (some (i, e))
    | some false => findE T kt k es (i + 1)
    | none => none

/-- may it be a key: of a number's type, or a struct of numbers -/
def keyFs (T : Tab) (xs : List AVal) : List Field → Bool
  | [] => true
  | fd :: fs => match T.und fd.type, partOf T fd.type xs fd.offset with
    | some (.int _), some _ => keyFs T xs fs
    | _, _ => false

def keyOk (T : Tab) (kt : TypeId) (k : AVal) : Bool :=
  match T.und kt, k with
  | some (.int _), .int _ _ => true
  | some (.struct fs), .agg xs => match T.sok kt with
    | true => match xs.all (fun x => match x with | .int _ _ => true | _ => false) with
      | true => keyFs T xs fs.toList
      | false => false
    | false => false
  | _, _ => false

def opLookup (T : Tab) (h : Heap) (t : TypeId) (m k : AVal) (ok : Bool) : Option AVal :=
  match T.und t with
  | some (.map kt e) => match keyOk T kt k, T.zero e with
    | true, some z => match m with
      | .nilm => some (if ok then .tup [z, .bool false] else z)
      | .mp id => match h.get id with
        | some (.map es _) => match findE T kt k es 0 with
          | some (some (_, a)) => some (if ok then .tup [a.val, .bool true] else a.val)
          | some none => some (if ok then .tup [z, .bool false] else z)
          | none => none
        | _ => none
      | _ => none
    | _, _ => none
  | _ => none

def opMapUpdate (T : Tab) (h : Heap) (t : TypeId) (m k v : AVal) : Option Heap :=
  match T.und t with
  | some (.map kt _) => match keyOk T kt k, m with
    | true, .mp id => match h.get id with
      | some (.map es c) => match findE T kt k es 0 with
        | some (some (i, a)) => match AVal.beq k a.key with
          | true => some (h.set id (.map (upd es i [⟨k, v, a.born⟩]) c))
          | false => none
        | some none => some (h.set id (.map (es ++ [⟨k, v, c⟩]) (Nat.succ c)))
        | none => none
      | _ => none
    | _, _ => none
  | _ => none

def opDelete (T : Tab) (h : Heap) (t : TypeId) (m k : AVal) : Option Heap :=
  match T.und t with
  | some (.map kt _) => match keyOk T kt k, m with
    | true, .nilm => some h
    | true, .mp id => match h.get id with
      | some (.map es c) => match findE T kt k es 0 with
        | some (some (i, _)) => some (h.set id (.map (es.eraseIdx i) c))
        | some none => some (h.set id (.map es c))
        | none => none
      | _ => none
    | _, _ => none
  | _ => none

def opRange (T : Tab) (h : Heap) (rid : Nat) (t : TypeId) (m : AVal) : Option (AVal × Heap) :=
  match T.und t, m with
  | some (.map _ _), .nilm => some (.ptr rid 0, h.set rid (.iter none 0 [] 0))
  | some (.map _ _), .mp id => match h.get id with
    | some (.map _ c) => some (.ptr rid 0, h.set rid (.iter (some id) c [] c))
    | _ => none
  | _, _ => none

def opNext (h : Heap) (it : AVal) : Option (AVal × Heap) :=
  match it with
  | .ptr r 0 => match h.get r with
    | some (.iter none _ _ _) => some (.tup [.bool false], h)
    | some (.iter (some m) since seen last) => match h.get m with
      | some (.map es c) => match !seen.isEmpty && !es.isEmpty && es.all (fun e => e.born ≥ last) with
        | true => none
        | false => match es.filter (fun e => !seen.contains e.born) with
          | [] => some (.tup [.bool false], h)
          | [e] => match Nat.blt e.born since with
            | true => some (.tup [.bool true, e.key, e.val], h.set r (.iter (some m) since (seen ++ [e.born]) c))
            | false => none
          | _ => none
      | _ => none
    | _ => none
  | _ => none

/-! ### One operation, calls apart -/

def pairs (env : Tree AVal) (l : List (Nat × Operand)) : Option (List (Nat × AVal)) :=
  omap (fun p : Nat × Operand => match ev env p.2 with | some v => some (p.1, v) | none => none) l

def oev (env : Tree AVal) : Option Operand → Option (Option AVal)
  | none => some none
  | some x => match ev env x with
    | some v => some (some v)
    | none => none

def noVal : AVal := .tup []

def evBuiltin (T : Tab) (h : Heap) (rid : Nat) (b : Builtin) (ts : List TypeId) (args : List AVal) : Option (AVal × Heap) :=
  match b, ts, args with
  | .append, [t, xt], [s, x] => opAppend T h rid t xt s x
  | .copy, [t, _], [d, x] => opCopy T h t d x
  | .clear, [t], [d] => match opClear T h t d with
    | some h' => some (noVal, h')
    | none => none
  | .len, [t], [x] => match opLen T h t x with
    | some v => some (v, h)
    | none => none
  | .cap, [t], [x] => match opCap T t x with
    | some v => some (v, h)
    | none => none
  | .max, _, l => match opMax l with
    | some v => some (v, h)
    | none => none
  | .min, _, l => match opMin l with
    | some v => some (v, h)
    | none => none
  | .delete, t :: _, [m, k] => match opDelete T h t m k with
    | some h' => some (noVal, h')
    | none => none
  | _, _, _ => none

def withH (h : Heap) : Option AVal → Option (AVal × Heap)
  | some v => some (v, h)
  | none => none

def done : Option Heap → Option (AVal × Heap)
  | some h => some (noVal, h)
  | none => none

/-- what an operation makes of its operands alone -/
def mkOp (T : Tab) (env : Tree AVal) (rid : Nat) (o : Op) : Option (AVal × AObj) :=
  match o with
  | .alloc t => match T.zero t with
    | some z => opBox rid t z
    | none => none
  | .box t x => match ev env x with
    | some v => opBox rid t v
    | none => none
  | .buildSlice t n ps => match pairs env ps.toList with
    | some l => opBuildSlice T rid t n l
    | none => none
  | .makeMap t r => match r with
    | none => some (.mp rid, .map [] 0)
    | some x => match T.und t, ev env x with
      | some (.map _ _), some (.int _ _) => some (.mp rid, .map [] 0)
      | _, _ => none
  | .makeSlice t l c => match ev env l, ev env c with
    | some a, some b => opMakeSlice T rid t a b
    | _, _ => none
  | _ => none

def made (h : Heap) (rid : Nat) : Option (AVal × AObj) → Option (AVal × Heap)
  | some (v, o) => some (v, h.set rid o)
  | none => none

def evOp (T : Tab) (env : Tree AVal) (h : Heap) (rid : Nat) (o : Op) : Option (AVal × Heap) :=
  match o with
  | .move x => withH h (ev env x)
  | .assign x => withH h (ev env x)
  | .pick c a b => match ev env c with
    | some (.bool true) => withH h (ev env a)
    | some (.bool false) => withH h (ev env b)
    | _ => none
  | .alloc t => made h rid (mkOp T env rid (.alloc t))
  | .box t x => made h rid (mkOp T env rid (.box t x))
  | .build t ps => match pairs env ps.toList with
    | some l => withH h (opBuild T t l)
    | none => none
  | .buildSlice t n ps => made h rid (mkOp T env rid (.buildSlice t n ps))
  | .load t a => match ev env a with
    | some v => withH h (opLoad T h t v)
    | none => none
  | .store t a x => match ev env a, ev env x with
    | some p, some v => done (opStore T h t p v)
    | _, _ => none
  | .nilCheck x => match ev env x with
    | some (.ptr id off) => some (.ptr id off, h)
    | some (.fn f a b) => some (.fn f a b, h)
    | some (.yld id) => some (.yld id, h)
    | some (.ifc t v) => some (.ifc t v, h)
    | _ => none
  | .binOp op t x y _ => match ev env x, ev env y with
    | some a, some b => withH h (opBin T op t a b)
    | _, _ => none
  | .unOp op _ x => match ev env x with
    | some a => withH h (opUn op a)
    | none => none
  | .convert s d x => match ev env x with
    | some a => opConvert T h rid s d a
    | none => none
  | .makeInterface t x => match ev env x, T.und t with
    | some _, some (.interface _) => none
    | some a, some _ => some (.ifc t a, h)
    | _, _ => none
  | .makeFunc (.func f) a c => match evs env a.toList, evs env c.toList with
    | some l, some m => some (.fn f l m, h)
    | _, _ => none
  | .makeMap t r => made h rid (mkOp T env rid (.makeMap t r))
  | .makeSlice t l c => made h rid (mkOp T env rid (.makeSlice t l c))
  | .slice t x lo hi mx => match ev env x, oev env lo, oev env hi, oev env mx with
    | some v, some a, some b, some c => withH h (opSlice T h t v a b c)
    | _, _, _, _ => none
  | .fieldAddr s x f => match ev env x with
    | some v => withH h (opFieldAddr T s v f)
    | none => none
  | .field s x f => match ev env x with
    | some v => withH h (opField T s v f)
    | none => none
  | .indexAddr t x i => match ev env x, ev env i with
    | some v, some n => withH h (opIndexAddr T t v n)
    | _, _ => none
  | .index t x i => match ev env x, ev env i with
    | some v, some n => withH h (opIndex T t v n)
    | _, _ => none
  | .lookup t m k ok => match ev env m, ev env k with
    | some v, some n => withH h (opLookup T h t v n ok)
    | _, _ => none
  | .mapUpdate t m k x => match ev env m, ev env k, ev env x with
    | some a, some b, some c => done (opMapUpdate T h t a b c)
    | _, _, _ => none
  | .range t m => match ev env m with
    | some v => opRange T h rid t v
    | none => none
  | .next it false => match ev env it with
    | some v => opNext h v
    | none => none
  | .extract t i => match ev env t with
    | some (.tup l) => withH h (nth l i)
    | _ => none
  | .call { callee := .builtin b, args, argTypes } => match evs env args.toList with
    | some l => evBuiltin T h rid b argTypes.toList l
    | none => none
  | _ => none

end
end Cv

/- The engine's evaluator: regions, code, calls. -/
set_option linter.unusedVariables false
namespace Cv
open Go
noncomputable section

inductive Out where
  | normal
  | exit (id : Nat)
  | ret

/-- what is called: a function, or the body of a loop over a function -/
inductive Who where
  | fn (f : FuncId)
  | yld (id : Nat)

abbrev Rec := Who → List AVal → Heap → Option (AVal × Heap)

/-- does an operation make one new object, named ahead? -/
def makes : Op → Bool
  | .alloc _ | .box _ _ | .buildSlice _ _ _ | .convert _ _ _ | .makeMap _ _ | .makeSlice _ _ _ | .range _ _ => true
  | .call { callee := .builtin .append, .. } => true
  | _ => false

def calleeOf (v : AVal) (args : List AVal) : Option (Who × List AVal) :=
  match v with
  | .fn f first cap => some (.fn f, first ++ args ++ cap)
  | .yld id => some (.yld id, args)
  | _ => none

/-- one operation; rid: the id of what it makes -/
def doOp (T : Tab) (rec : Rec) (env : Tree AVal) (h : Heap) (rid : Nat) (o : Op) : Option (AVal × Heap) :=
  match o with
  | .call { callee := .value f, args, .. } => match ev env f, evs env args.toList with
    | some v, some l => match calleeOf v l with
      | some (w, l') => rec w l' h
      | none => none
    | _, _ => none
  | o => evOp T env h rid o

/-- is an operation wanted? -/
def wantedA (env : Tree AVal) (ops : List Oper) (o : Oper) : Option Bool :=
  match o.guard with
  | none => some true
  | some (j, want) => match nth ops j with
    | none => none
    | some g => match g.dst with
      | none => none
      | some d => match env.get d with
        | some (.bool b) => some (b == want)
        | some _ => some false
        | none => none

def putA (env : Tree AVal) (n : Nat) (d : Option Tmp) (v : AVal) : Option (Tree AVal) :=
  match d with
  | none => some env
  | some d => match Nat.blt d n with
    | true => some (env.set d v)
    | false => none

/-- operations, one behind the other -/
def doOps (T : Tab) (rec : Rec) (n : Nat) (all : List Oper) : List Oper → Tree AVal → Heap → Option (Tree AVal × Heap)
  | [], env, h => some (env, h)
  | o :: os, env, h => match wantedA env all o with
    | none => none
    | some false => match putA env n o.dst noVal with
      | some env' => doOps T rec n all os env' h
      | none => none
    | some true => match makes o.op with
      | true => match doOp T rec env ⟨h.t, Nat.succ h.next⟩ h.next o.op with
        | some (v, h') => match putA env n o.dst v with
          | some env' => doOps T rec n all os env' h'
          | none => none
        | none => none
      | false => match doOp T rec env h 0 o.op with
        | some (v, h') => match putA env n o.dst v with
          | some env' => doOps T rec n all os env' h'
          | none => none
        | none => none

/-! ### Regions that draw their order -/

/-- kinds of operations there: pure; reads memory; makes an object of its operands alone; all else -/
inductive Cls where | pure | read | make | act

def cls : Op → Cls
  | .move _ | .assign _ | .pick _ _ _ | .build _ _ | .nilCheck _ | .binOp _ _ _ _ _ | .unOp _ _ _ | .makeInterface _ _ | .makeFunc _ _ _ | .fieldAddr _ _ _ | .field _ _ _ | .indexAddr _ _ _ | .index _ _ _ | .extract _ _ => .pure
  | .load _ _ | .slice _ _ _ _ _ | .lookup _ _ _ _ => .read
  | .call { callee := .builtin b, .. } => match b with
    | .len | .cap | .max | .min => .read
    | _ => .act
  | .alloc _ | .box _ _ | .buildSlice _ _ _ | .makeMap _ _ | .makeSlice _ _ _ => .make
  | _ => .act

/-- what stands ahead of each operation, as bits -/
def masks : List Oper → List Nat → List Nat
  | [], acc => acc.reverse
  | o :: os, acc => masks os ((o.after.toList.foldl (fun s e => match Region.binds .any e with | true => s ||| 2 ^ e.on ||| ((nth acc (Nat.sub (Nat.pred acc.length) e.on)).getD 0) | false => s) 0) :: acc)

/-- a read: which operation, its operands' slots, what it came to -/
structure Rd where
  i : Nat
  op : Op
  env : Tree AVal
  v : AVal

def release (base m : Nat) : List (Nat × AObj) → Heap → Heap
  | [], h => h
  | (a, o) :: l, h => match m.testBit a with
    | true => release base m l (h.set (Nat.add base a) o)
    | false => release base m l h

def keep (m : Nat) : List (Nat × AObj) → List (Nat × AObj)
  | [] => []
  | (a, o) :: l => match m.testBit a with
    | true => keep m l
    | false => (a, o) :: keep m l

structure DSt where
  env : Tree AVal
  h : Heap
  pend : List (Nat × AObj)
  /-- the acting operations, newest first -/
  evs : List Nat
  /-- the memories, newest first, each by what follows its last acting operation -/
  vers : List (Nat × Heap)
  rds : List Rd

/-- a region that draws its order, in the text's order -/
def walkD (T : Tab) (rec : Rec) (n base : Nat) (all : List Oper) : List Oper → List Nat → Nat → DSt → Option DSt
  | [], _, _, s => some s
  | _ :: _, [], _, _ => none
  | o :: os, m :: ms, i, s => match wantedA s.env all o with
    | none => none
    | some false => match putA s.env n o.dst noVal with
      | some env' => walkD T rec n base all os ms (Nat.succ i) { s with env := env' }
      | none => none
    | some true => match cls o.op with
      | .pure => match evOp T s.env s.h 0 o.op with
        | some (v, _) => match putA s.env n o.dst v with
          | some env' => walkD T rec n base all os ms (Nat.succ i) { s with env := env' }
          | none => none
        | none => none
      | .read => match evOp T s.env s.h 0 o.op with
        | some (v, _) => match putA s.env n o.dst v with
          | some env' => walkD T rec n base all os ms (Nat.succ i) { s with env := env', rds := ⟨i, o.op, s.env, v⟩ :: s.rds }
          | none => none
        | none => none
      | .make => match mkOp T s.env (Nat.add base i) o.op with
        | some (v, ob) => match putA s.env n o.dst v with
          | some env' => walkD T rec n base all os ms (Nat.succ i) { s with env := env', pend := (i, ob) :: s.pend }
          | none => none
        | none => none
      | .act => match (match s.evs with | [] => true | e :: _ => m.testBit e) with
        | true => match doOp T rec s.env (release base m s.pend s.h) (Nat.add base i) o.op with
          | some (v, h') => match putA s.env n o.dst v with
            | some env' => walkD T rec n base all os ms (Nat.succ i) { env := env', h := h', pend := keep m s.pend, evs := i :: s.evs, vers := (Nat.succ i, h') :: s.vers, rds := s.rds }
            | none => none
          | none => none
        | false => none

def releaseAll (base : Nat) : List (Nat × AObj) → Heap → Heap
  | [], h => h
  | (a, o) :: l, h => releaseAll base l (h.set (Nat.add base a) o)

def bitLt (m e p : Nat) : Bool := match m.testBit e with | true => Nat.blt e p | false => true
def bitLe (m i p e : Nat) : Bool := match m.testBit i with | true => Nat.ble p e | false => true

/-- may the operation i be done where the acting ones ahead of p are done, and no others? -/
def allowed (ms : List Nat) (i mi p : Nat) : List Nat → Bool
  | [] => true
  | e :: es => match bitLt mi e p with
    | true => match bitLe ((nth ms e).getD 0) i p e with
      | true => allowed ms i mi p es
      | false => false
    | false => false

/-- does a read come to the same in each memory in which it may be done? -/
def readOk (T : Tab) (ms : List Nat) (evs : List Nat) (r : Rd) : List (Nat × Heap) → Bool
  | [] => true
  | (p, h) :: hs => match allowed ms r.i ((nth ms r.i).getD 0) p evs with
    | true => match evOp T r.env h 0 r.op with
      | some (v, _) => match v.beq r.v with
        | true => readOk T ms evs r hs
        | false => false
      | none => false
    | false => readOk T ms evs r hs

def readsOk (T : Tab) (ms : List Nat) (evs : List Nat) (vers : List (Nat × Heap)) : List Rd → Bool
  | [] => true
  | r :: rs => match readOk T ms evs r vers with
    | true => readsOk T ms evs vers rs
    | false => false

/-- the slots that an operation looks at -/
def tmpsOf (ops : List Oper) (o : Oper) : List Tmp :=
  (o.op.operands.toList.filterMap fun | .tmp t => some t | _ => none) ++
  (match o.guard with
   | some (g, _) => match nth ops g with
     | some x => x.dst.toList
     | none => []
   | none => [])

def okDst (ms : List Nat) (i mi : Nat) (ts : List Tmp) (l : Nat) (d : Tmp) (own : Option Tmp) : Bool :=
  match Nat.beq l i with
  | true => true
  | false => (match own with | some x => !Nat.beq x d | none => true) && (match ts.contains d with
    | true => match Nat.blt l i with
      | true => mi.testBit l
      | false => ((nth ms l).getD 0).testBit i
    | false => true)

def okDsts (ms : List Nat) (i mi : Nat) (ts : List Tmp) (own : Option Tmp) : List Oper → Nat → Bool
  | [], _ => true
  | o :: os, l => (match o.dst with | some d => okDst ms i mi ts l d own | none => true) && okDsts ms i mi ts own os (Nat.succ l)

def okEdges (i : Nat) (o : Oper) : Bool := o.after.toList.all fun e => !Region.binds .any e || Nat.blt e.on i

def okOpers (all : List Oper) (ms : List Nat) : List Oper → Nat → Bool
  | [], _ => true
  | o :: os, i => okEdges i o && okDsts ms i ((nth ms i).getD 0) (tmpsOf all o) o.dst all 0 && okOpers all ms os (Nat.succ i)

def doDraw (T : Tab) (rec : Rec) (n : Nat) (ops : List Oper) (env : Tree AVal) (h : Heap) : Option (Tree AVal × Heap) :=
  match okOpers ops (masks ops []) ops 0 with
  | true => match walkD T rec n h.next ops ops (masks ops []) 0 ⟨env, ⟨h.t, Nat.add h.next ops.length⟩, [], [], [(0, ⟨h.t, Nat.add h.next ops.length⟩)], []⟩ with
    | some s => match readsOk T (masks ops []) s.evs s.vers s.rds with
      | true => some (s.env, releaseAll h.next s.pend s.h)
      | false => none
    | none => none
  | false => none

end
end Cv

/- The engine's evaluator: code and calls. -/
set_option linter.unusedVariables false
namespace Cv
open Go
noncomputable section

structure St where
  env : Tree AVal
  mks : List Nat
  h : Heap

def iterL (g : Heap → Heap) (f : St → Option (Out × St)) : Nat → St → Option (Out × St)
  | 0, _ => none
  | n + 1, s => match f s with
    | none => none
    | some (.normal, s') => iterL g f n ⟨s'.env, s'.mks, g s'.h⟩
    | some (.exit id, s') => some (.exit id, s')
    | some (.ret, s') => some (.ret, s')

/-- the block for the deferred calls of a loop over a function -/
def dfrOf (ar : Option Nat) (s : St) : Option (Nat × St) :=
  match ar with
  | some l0 => match s.h.get l0 with
    | some (.loop _ _ _ _ _ _ _ _ dd) => some (dd, s)
    | _ => none
  | none => some (s.h.next, ⟨s.env, s.h.next :: s.mks, ⟨s.h.t.set s.h.next (.dfr false), Nat.succ s.h.next⟩⟩)

def outOf : Option Code → Option Out
  | none => some .normal
  | some .ret => some .ret
  | some (.exit id) => some (.exit id)
  | _ => none

def endL (h : Heap) (l : Nat) : Option (Out × Heap) :=
  match h.get l with
  | some (.loop st p fn env n ps a b dd) => match st with
    | .busy => none
    | _ => match outOf p with
      | some o => some (o, h.set l (.loop .over p fn env n ps a b dd))
      | none => none
  | _ => none

def evC (T : Tab) (rec : Rec) (fnid : FuncId) (n : Nat) (ar : Option Nat) (lf : Nat) : Code → St → Option (Out × St)
  | .skip, s => some (.normal, s)
  | .region _ ops false, s => match doOps T rec n ops.toList ops.toList s.env s.h with
    | some (env, h) => some (.normal, ⟨env, s.mks, h⟩)
    | none => none
  | .region _ ops true, s => match doDraw T rec n ops.toList s.env s.h with
    | some (env, h) => some (.normal, ⟨env, s.mks, h⟩)
    | none => none
  | .seq a b, s => match evC T rec fnid n ar lf a s with
    | none => none
    | some (.normal, s') => evC T rec fnid n ar lf b s'
    | some (.exit id, s') => some (.exit id, s')
    | some (.ret, s') => some (.ret, s')
  | .cond c a b, s => match ev s.env c with
    | some (.bool true) => evC T rec fnid n ar lf a s
    | some (.bool false) => evC T rec fnid n ar lf b s
    | _ => none
  | .block id b, s => match evC T rec fnid n ar lf b s with
    | some (.exit id', s') => match Nat.beq id' id with
      | true => some (.normal, s')
      | false => some (.exit id', s')
    | r => r
  | .loop b, s => iterL (T.gc fnid) (evC T rec fnid n ar lf b) lf s
  | .scope b, s => evC T rec fnid n ar lf b s
  | .exit id, s => some (.exit id, s)
  | .ret, s => some (.ret, s)
  | .rangeFunc f ps a b, s => match ev s.env f with
    | some (.fn g first cap) => match dfrOf ar s with
      | some (dd, s1) => match rec (.fn g) (first ++ [.yld s1.h.next] ++ cap) ⟨s1.h.t.set s1.h.next (.loop .ready none fnid s.env n ps.toList a b dd), Nat.succ s1.h.next⟩ with
        | some (_, h3) => match endL h3 s1.h.next with
          | some (o, h4) => some (o, ⟨s1.env, s1.mks, h4⟩)
          | none => none
        | none => none
      | none => none
    | _ => none
  | _, _ => none

def bindArgs : List AVal → Nat → Tree AVal → Tree AVal
  | [], _, t => t
  | v :: l, i, t => bindArgs l (Nat.succ i) (t.set i v)

def takeD : List Nat → Heap → Option Heap
  | [], h => some h
  | m :: l, h => match h.get m with
    | some (.dfr false) => takeD l (h.set m (.dfr true))
    | _ => none

def resOf (T : Tab) (h : Heap) (env : Tree AVal) : List ResultVar → Option (List AVal)
  | [] => some []
  | .tmp t :: l => match env.get t, resOf T h env l with
    | some v, some r => some (v :: r)
    | _, _ => none
  | .cell a t :: l => match env.get a with
    | some p => match opLoad T h t p, resOf T h env l with
      | some v, some r => some (v :: r)
      | _, _ => none
    | none => none

def pack : List AVal → AVal
  | [v] => v
  | l => .tup l

def callBody (T : Tab) (rec : Rec) (lf : Nat) (f : FuncId) (args : List AVal) (h : Heap) : Option (AVal × Heap) :=
  match T.fn.get f with
  | some fn => match fn.body with
    | some c => match Nat.ble args.length fn.ntmps with
      | true => match evC T rec f fn.ntmps none lf c ⟨bindArgs args 0 .lf, [], h⟩ with
        | some (.exit _, _) => none
        | some (_, s) => match takeD s.mks s.h with
          | some h' => match resOf T h' s.env fn.results.toList with
            | some l => some (pack l, h')
            | none => none
          | none => none
        | none => none
      | false => none
    | none => none
  | none => none

def bindPs (n : Nat) : List Tmp → List AVal → Tree AVal → Option (Tree AVal)
  | [], [], t => some t
  | p :: ps, v :: vs, t => match Nat.blt p n with
    | true => bindPs n ps vs (t.set p v)
    | false => none
  | _, _, _ => none

def yldBody (T : Tab) (rec : Rec) (lf : Nat) (id : Nat) (args : List AVal) (h : Heap) : Option (AVal × Heap) :=
  match h.get id with
  | some (.loop .ready _ fn env n ps a b dd) => match bindPs n ps args env with
    | some env1 => match evC T rec fn n (some id) lf a ⟨env1, [], h⟩ with
      | some (.normal, s1) => match s1.h.get id with
        | some (.loop .ready p fn' env' n' ps' a' b' dd') => match evC T rec fn n (some id) lf b ⟨s1.env, [], s1.h.set id (.loop .busy p fn' env' n' ps' a' b' dd')⟩ with
          | some (o, s2) => match s2.h.get id with
            | some (.loop .busy _ fn'' env'' n'' ps'' a'' b'' dd'') => match o with
              | .normal => some (.bool true, s2.h.set id (.loop .ready none fn'' env'' n'' ps'' a'' b'' dd''))
              | .ret => some (.bool false, s2.h.set id (.loop .done (some .ret) fn'' env'' n'' ps'' a'' b'' dd''))
              | .exit e => some (.bool false, s2.h.set id (.loop .done (some (.exit e)) fn'' env'' n'' ps'' a'' b'' dd''))
            | _ => none
          | none => none
        | _ => none
      | _ => none
    | none => none
  | _ => none

/-- what is known of calls beforehand -/
abbrev Known := FuncId → List AVal → Heap → Option (AVal × Heap)

def recN (T : Tab) (kn : Known) (lf : Nat) : Nat → Rec
  | 0, _, _, _ => none
  | d + 1, .fn f, args, h => match kn f args h with
    | some r => some r
    | none => callBody T (recN T kn lf d) lf f args h
  | d + 1, .yld id, args, h => yldBody T (recN T kn lf d) lf id args h

def gc0 : FuncId → Heap → Heap := fun _ h => h

def Tab.of (P : Program) (sok : TypeId → Bool) (gc : FuncId → Heap → Heap) : Tab := ⟨Tree.ofList 14 P.types.toList, Tree.ofList 14 P.funcs.toList, sok, gc⟩

def kn0 : Known := fun _ _ _ => none

end
end Cv

/- Soundness, the ground: how the relation is kept when memory grows or turns. -/
set_option linter.unusedVariables false
set_option linter.unusedSimpArgs false
namespace Cv
open Go

/-! ### Lists -/

theorem nth_eq {α : Type} : ∀ (l : List α) (n : Nat), nth l n = l[n]?
  | [], n => by
    show none = _
    simp
  | a :: l, 0 => rfl
  | a :: l, n + 1 => by
    show nth l n = _
    simp [nth_eq l n]

theorem omap_some {α β : Type} {f : α → Option β} : ∀ {l : List α} {r : List β}, omap f l = some r → r.length = l.length ∧ ∀ (i : Nat) (b : β), r[i]? = some b → ∃ a, l[i]? = some a ∧ f a = some b
  | [], r, h => by simp [omap] at h; subst h; simp
  | a :: l, r, h => by
    simp only [omap] at h
    cases hf : f a with
    | none => simp [hf] at h
    | some b =>
      cases hr : omap f l with
      | none => simp [hf, hr] at h
      | some r' =>
        simp [hf, hr] at h
        subst h
        have ih := omap_some hr
        refine ⟨by simp [ih.1], fun i c hc => ?_⟩
        cases i with
        | zero => simp at hc; subst hc; exact ⟨a, by simp, hf⟩
        | succ i => simp at hc; obtain ⟨a', h1, h2⟩ := ih.2 i c hc; exact ⟨a', by simpa using h1, h2⟩

theorem upd_length {α : Type} : ∀ (l : List α) (n : Nat) (cs : List α), (upd l n cs).length = l.length
  | [], 0, [] => rfl
  | [], 0, c :: cs => by simp [upd]
  | [], n + 1, cs => by simp [upd]
  | a :: l, 0, [] => by simp [upd]
  | a :: l, 0, c :: cs => by simp [upd, upd_length l 0 cs]
  | a :: l, n + 1, cs => by simp [upd, upd_length l n cs]

theorem upd_get {α : Type} : ∀ (l : List α) (n : Nat) (cs : List α) (i : Nat), n + cs.length ≤ l.length →
    (upd l n cs)[i]? = if n ≤ i ∧ i < n + cs.length then cs[i - n]? else l[i]?
  | [], 0, [], i, h => by simp [upd]
  | [], 0, c :: cs, i, h => by simp at h
  | [], n + 1, cs, i, h => by simp at h
  | a :: l, 0, [], i, h => by simp [upd]
  | a :: l, 0, c :: cs, i, h => by
    simp only [upd]
    cases i with
    | zero => simp
    | succ i =>
      have := upd_get l 0 cs i (by simpa using h)
      simp [this]
  | a :: l, n + 1, cs, i, h => by
    simp only [upd]
    cases i with
    | zero => simp
    | succ i =>
      have := upd_get l n cs i (by simp at h; omega)
      simp [this]
      by_cases hc : n ≤ i ∧ i < n + cs.length
      · rw [if_pos hc, if_pos ⟨by omega, by omega⟩]
      · rw [if_neg hc, if_neg (by omega)]

theorem upd_nil {α : Type} : ∀ (l : List α) (n : Nat), upd l n [] = l
  | [], 0 => rfl
  | [], n + 1 => rfl
  | a :: l, 0 => rfl
  | a :: l, n + 1 => by simp [upd, upd_nil l n]

theorem upd_cons {α : Type} : ∀ (l : List α) (n : Nat) (c : α) (cs : List α), upd l n (c :: cs) = upd (l.set n c) (n + 1) cs
  | [], 0, c, cs => by simp [upd]
  | [], n + 1, c, cs => by simp [upd]
  | a :: l, 0, c, cs => by simp [upd]
  | a :: l, n + 1, c, cs => by
    rw [upd]
    simp [List.set, upd_cons l n c cs, upd]

theorem rep_length {α : Type} (l : List α) : ∀ n, (rep n l).length = n * l.length
  | 0 => by simp [rep]
  | n + 1 => by simp [rep, rep_length l n, Nat.add_mul, Nat.add_comm]

theorem natsEq_eq : ∀ (a b : List Nat), natsEq a b = decide (a = b)
  | [], [] => by simp [natsEq]
  | [], b :: m => by simp [natsEq]
  | a :: l, [] => by simp [natsEq]
  | a :: l, b :: m => by
    simp only [natsEq]
    cases h : Nat.beq a b with
    | true => have := Nat.eq_of_beq_eq_true h; simp [this, natsEq_eq l m]
    | false => have := Nat.ne_of_beq_eq_false h; simp [this]

/-! ### Values stand for the same when memory grows -/

def Grow (ρ : Ren) (w : World) (ρ' : Ren) (w' : World) : Prop := (∀ id b, ρ id = some b → ρ' id = some b) ∧ ∀ b e n, w.shape? b = some (e, n) → w'.shape? b = some (e, n)

theorem CapOk.mono {w w' : World} {b off c : Nat} {cap : Cap} (hs : ∀ b e n, w.shape? b = some (e, n) → w'.shape? b = some (e, n)) (h : CapOk w b off c cap) : CapOk w' b off c cap := by
  cases cap with
  | ex n => exact h
  | toEnd sz => obtain ⟨h0, e, n, h1, h2⟩ := h; exact ⟨h0, e, n, hs _ _ _ h1, h2⟩

theorem V.mono {ρ ρ' : Ren} {w w' : World} (g : Grow ρ w ρ' w') {v : AVal} {c : Value} (h : V ρ w v c) : V ρ' w' v c := by
  induction h with
  | bool b => exact .bool b
  | int k n => exact .int k n
  | str s l h => exact .str s l h
  | nilp => exact .nilp
  | ptr off h => exact .ptr off (g.1 _ _ h)
  | nils => exact .nils
  | sl off len c cap h hl hc => exact .sl off len c cap (g.1 _ _ h) hl (hc.mono g.2)
  | emp a c => exact .emp a c
  | nilm => exact .nilm
  | mp h => exact .mp (g.1 _ _ h)
  | fn f xs ys cs ds hx hxs hy hys ih1 ih2 => exact .fn f xs ys cs ds hx ih1 hy ih2
  | yld h => exact .yld (g.1 _ _ h)
  | nilf => exact .nilf
  | ifc t x c h ih => exact .ifc t x c ih
  | nili => exact .nili
  | agg xs cs hx hxs ih => exact .agg xs cs hx ih
  | tup xs cs hx hxs ih => exact .tup xs cs hx ih

theorem VL.mono {ρ ρ' : Ren} {w w' : World} (g : Grow ρ w ρ' w') {xs : List AVal} {cs : List Value} (h : VL ρ w xs cs) : VL ρ' w' xs cs :=
  ⟨h.1, fun i x c hx hc => (h.2 i x c hx hc).mono g⟩

theorem ER.mono {ρ ρ' : Ren} {w w' : World} (g : Grow ρ w ρ' w') {t : Tree AVal} {n : Nat} {tmps : Array Value} (h : ER ρ w t n tmps) : ER ρ' w' t n tmps :=
  ⟨h.1, fun i x hx => let ⟨c, hc, hv⟩ := h.2 i x hx; ⟨c, hc, hv.mono g⟩⟩

theorem OR.mono {ρ ρ' : Ren} {w w' : World} (g : Grow ρ w ρ' w') {o : AObj} {c : Obj} (h : OR ρ w o c) : OR ρ' w' o c := by
  cases h with
  | cells xs ty grow cs fz hg hlen hxs hfz => exact .cells xs ty grow cs fz hg hlen (fun i x c hx hc => (hxs i x c hx hc).mono g) hfz
  | map es clock cs hl hes => exact .map es clock cs hl (fun i x c hx hc => let ⟨a, b, d⟩ := hes i x c hx hc; ⟨a.mono g, b.mono g, d⟩)
  | iterNil since seen stepped => exact .iterNil since seen stepped
  | iter since seen stepped h => exact .iter since seen stepped (g.1 _ _ h)
  | loop st pending fn env size params assign body tmps he hd => exact .loop st pending fn env size params assign body tmps (he.mono g) (g.1 _ _ hd)
  | dfr taken => exact .dfr taken

theorem Ext.grow {only : Nat → Prop} {ρ ρ' : Ren} {h h' : Heap} {w w' : World} (e : Ext only ρ h w ρ' h' w') : Grow ρ w ρ' w' := ⟨e.mono, e.shp⟩

theorem Grow.refl (ρ : Ren) (w : World) : Grow ρ w ρ w := ⟨fun _ _ h => h, fun _ _ _ h => h⟩
theorem Grow.trans {ρ ρ' ρ'' : Ren} {w w' w'' : World} (a : Grow ρ w ρ' w') (b : Grow ρ' w' ρ'' w'') : Grow ρ w ρ'' w'' := ⟨fun _ _ h => b.1 _ _ (a.1 _ _ h), fun _ _ _ h => b.2 _ _ _ (a.2 _ _ _ h)⟩

theorem Ext.refl (only : Nat → Prop) (ρ : Ren) (h : Heap) (w : World) : Ext only ρ h w ρ h w :=
  ⟨fun _ _ h => h, fun _ _ h => .inl h, fun _ h => .inr h, fun _ _ _ => rfl, fun _ _ _ h => h, Nat.le_refl _, rfl, rfl, rfl, Nat.le_refl _⟩

theorem Ext.weaken {only only' : Nat → Prop} {ρ ρ' : Ren} {h h' : Heap} {w w' : World} (e : Ext only ρ h w ρ' h' w') (ho : ∀ id, only id → only' id ∨ h.next ≤ id) : Ext only' ρ h w ρ' h' w' :=
  { e with new := fun id b hb => (e.new id b hb).imp (fun z => z) fun ⟨x, y⟩ => ⟨x.elim (fun z => ho _ z) .inr, y⟩ }

theorem Ext.trans {only : Nat → Prop} {ρ ρ' ρ'' : Ren} {h h' h'' : Heap} {w w' w'' : World} (a : Ext only ρ h w ρ' h' w') (b : Ext only ρ' h' w' ρ'' h'' w'') : Ext only ρ h w ρ'' h'' w'' where
  mono := fun id x hx => b.mono _ _ (a.mono _ _ hx)
  new := fun id x hx => by
    rcases b.new id x hx with h1 | ⟨h1, h2⟩
    · exact a.new id x h1
    · refine .inr ⟨h1.imp (fun z => z) fun z => Nat.le_trans a.next z, ?_⟩
      rcases h2 with h2 | h2
      · exact .inl (Nat.le_trans a.size h2)
      · exact a.own _ h2
  own := fun x hx => by
    rcases b.own x hx with h1 | h1
    · exact .inl (Nat.le_trans a.size h1)
    · exact a.own _ h1
  blk := fun x hx hn => by
    have h1 : ¬ Owns ρ' h' x := fun ho => by
      rcases a.own x ho with h2 | h2
      · omega
      · exact hn h2
    rw [b.blk x (Nat.lt_of_lt_of_le hx a.size) h1, a.blk x hx hn]
  shp := fun x e n hx => b.shp _ _ _ (a.shp _ _ _ hx)
  size := Nat.le_trans a.size b.size
  tape := b.tape.trans a.tape
  os := b.os.trans a.os
  output := b.output.trans a.output
  next := Nat.le_trans a.next b.next

/-! ### One step of memory -/

/-- a world whose heap is another one, and that has drawn -/
def World.upTo (w : World) (heap : Array Obj) (d : Nat) : World := { w with heap := heap, drawn := d }

theorem shape_block {w : World} {b : Nat} {cs : List Value} {e : TypeId} {fz : Nat × Nat} (h : w.heap[b]? = some (.cells cs.toArray e fz)) : w.shape? b = some (e, cs.length) := by
  simp [World.shape?, h]

theorem shape_congr {w w' : World} {b : Nat} (h : w'.heap[b]? = w.heap[b]?) : w'.shape? b = w.shape? b := by simp [World.shape?, h]

/-- a block turns -/
theorem Rel.turn {ρ : Ren} {h : Heap} {w w' : World} (r : Rel ρ h w) {id b : Nat} {o o' : AObj} {c c' : Obj} (ho : h.get id = some o) (hb : ρ id = some b) (hc : w.heap[b]? = some c)
    (hw : w'.heap = w.heap.setIfInBounds b c') (ht : w'.tape = w.tape) (hos : w'.os = w.os) (hout : w'.output = w.output)
    (hs : ∀ e n, w.shape? b = some (e, n) → w'.shape? b = some (e, n)) (ho' : OR ρ w o' c') : Rel ρ (h.set id o') w' ∧ Ext (fun _ => False) ρ h w ρ (h.set id o') w' := by
  have hlt : b < w.heap.size := r.bound _ _ hb
  have hsz : w'.heap.size = w.heap.size := by rw [hw]; simp
  have hsame : ∀ x, x ≠ b → w'.heap[x]? = w.heap[x]? := fun x hx => by rw [hw, Array.getElem?_setIfInBounds, if_neg (fun e => hx e.symm)]
  have hat : w'.heap[b]? = some c' := by rw [hw]; simp [Array.getElem?_setIfInBounds, hlt]
  have hshp : ∀ x e n, w.shape? x = some (e, n) → w'.shape? x = some (e, n) := fun x e n hx => by
    by_cases hxb : x = b
    · subst hxb; exact hs e n hx
    · rw [shape_congr (hsame x hxb)]; exact hx
  have g : Grow ρ w ρ w' := ⟨fun _ _ h => h, hshp⟩
  have howns : ∀ x, Owns ρ (h.set id o') x → Owns ρ h x := by
    rintro x ⟨i, oi, hi, hx⟩
    rcases Heap.get_set hi with ⟨e, _⟩ | ⟨_, hi⟩
    · subst e; exact ⟨i, o, ho, hx⟩
    · exact ⟨i, oi, hi, hx⟩
  refine ⟨⟨?_, ?_, r.fresh, fun i x hx => by rw [hsz]; exact r.bound i x hx⟩, ⟨fun _ _ h => h, fun _ _ h => .inl h, fun x hx => .inr (howns x hx), ?_, hshp, by rw [hsz]; exact Nat.le_refl _, ht, hos, hout, Nat.le_refl _⟩⟩
  · intro i oi hi
    rcases Heap.get_set hi with ⟨e, e2⟩ | ⟨ne, hi⟩
    · subst e; subst e2; exact ⟨b, c', hb, hat, ho'.mono g⟩
    · obtain ⟨x, cx, h1, h2, h3⟩ := r.obj i oi hi
      have : x ≠ b := fun e => ne (r.inj i id oi o x hi ho h1 (e ▸ hb))
      exact ⟨x, cx, h1, by rw [hsame x this]; exact h2, h3.mono g⟩
  · intro i j oi oj x hi hj hxi hxj
    rcases Heap.get_set hi with ⟨e, _⟩ | ⟨_, hi⟩ <;> rcases Heap.get_set hj with ⟨e', _⟩ | ⟨_, hj⟩
    · rw [e, e']
    · rw [e] at hxi ⊢; exact r.inj _ _ _ _ _ ho hj hxi hxj
    · rw [e'] at hxj ⊢; exact r.inj _ _ _ _ _ hi ho hxi hxj
    · exact r.inj _ _ _ _ _ hi hj hxi hxj
  · intro x hx hn
    have : x ≠ b := fun e => hn ⟨id, o, ho, e ▸ hb⟩
    exact hsame x this

/-- a new block -/
theorem Rel.new {ρ : Ren} {h : Heap} {w w' : World} (r : Rel ρ h w) {rid : Nat} {o : AObj} {c : Obj} (hn : ρ rid = none) (hr : rid < h.next)
    (hw : w'.heap = w.heap.push c) (ht : w'.tape = w.tape) (hos : w'.os = w.os) (hout : w'.output = w.output) (ho : OR ρ w o c) :
    let ρ' : Ren := fun i => if i = rid then some w.heap.size else ρ i
    Rel ρ' (h.set rid o) w' ∧ Ext (· = rid) ρ h w ρ' (h.set rid o) w' ∧ ρ' rid = some w.heap.size := by
  intro ρ'
  have hsz : w'.heap.size = w.heap.size + 1 := by rw [hw]; simp
  have hold : ∀ x, x < w.heap.size → w'.heap[x]? = w.heap[x]? := fun x hx => by rw [hw, Array.getElem?_push, if_neg (by omega)]
  have hnew : w'.heap[w.heap.size]? = some c := by rw [hw]; simp
  have hmono : ∀ i b, ρ i = some b → ρ' i = some b := fun i b hb => by
    have : i ≠ rid := fun e => by rw [e, hn] at hb; cases hb
    simp [ρ', this, hb]
  have hshp : ∀ x e n, w.shape? x = some (e, n) → w'.shape? x = some (e, n) := fun x e n hx => by
    have hlt : x < w.heap.size := by
      rcases Nat.lt_or_ge x w.heap.size with hl | hl
      · exact hl
      · simp [World.shape?, Array.getElem?_eq_none hl] at hx
    rw [shape_congr (hold x hlt)]; exact hx
  have g : Grow ρ w ρ' w' := ⟨hmono, hshp⟩
  have hcase : ∀ i b, ρ' i = some b → (i = rid ∧ b = w.heap.size) ∨ (i ≠ rid ∧ ρ i = some b) := fun i b hb => by
    by_cases e : i = rid
    · left; simp [ρ', e] at hb; exact ⟨e, hb.symm⟩
    · right; simp [ρ', e] at hb; exact ⟨e, hb⟩
  refine ⟨⟨?_, ?_, ?_, ?_⟩, ⟨hmono, ?_, ?_, fun x hx _ => hold x hx, hshp, by omega, ht, hos, hout, Nat.le_refl _⟩, by simp [ρ']⟩
  · intro i oi hi
    rcases Heap.get_set hi with ⟨e, e2⟩ | ⟨ne, hi⟩
    · subst e; subst e2; exact ⟨_, c, by simp [ρ'], hnew, ho.mono g⟩
    · obtain ⟨x, cx, h1, h2, h3⟩ := r.obj i oi hi
      exact ⟨x, cx, hmono _ _ h1, by rw [hold x (r.bound _ _ h1)]; exact h2, h3.mono g⟩
  · intro i j oi oj x hi hj hxi hxj
    rcases hcase i x hxi with ⟨e, ex⟩ | ⟨ne, hxi⟩ <;> rcases hcase j x hxj with ⟨e', ex'⟩ | ⟨ne', hxj⟩
    · rw [e, e']
    · have := r.bound _ _ hxj; omega
    · have := r.bound _ _ hxi; omega
    · rcases Heap.get_set hi with ⟨e, _⟩ | ⟨_, hi⟩
      · exact absurd e ne
      · rcases Heap.get_set hj with ⟨e, _⟩ | ⟨_, hj⟩
        · exact absurd e ne'
        · exact r.inj _ _ _ _ _ hi hj hxi hxj
  · intro i hi
    have : i ≠ rid := fun e => by rw [e] at hi; exact absurd hi (by show ¬ h.next ≤ rid; omega)
    simp [ρ', this]; exact r.fresh i hi
  · intro i x hx
    rcases hcase i x hx with ⟨_, e⟩ | ⟨_, hx⟩
    · omega
    · have := r.bound _ _ hx; omega
  · intro i x hx
    rcases hcase i x hx with ⟨e, ex⟩ | ⟨_, hx⟩
    · exact .inr ⟨.inl e, .inl (by omega)⟩
    · exact .inl hx
  · rintro x ⟨i, oi, hi, hx⟩
    rcases hcase i x hx with ⟨e, ex⟩ | ⟨ne, hx⟩
    · exact .inl (by omega)
    · rcases Heap.get_set hi with ⟨e, _⟩ | ⟨_, hi⟩
      · exact absurd e ne
      · exact .inr ⟨i, oi, hi, hx⟩

/-- the world has drawn: nothing else has turned -/
theorem Rel.drawn {ρ : Ren} {h : Heap} {w w' : World} (r : Rel ρ h w) (hw : w'.heap = w.heap) (ht : w'.tape = w.tape) (hos : w'.os = w.os) (hout : w'.output = w.output) (only : Nat → Prop) :
    Rel ρ h w' ∧ Ext only ρ h w ρ h w' := by
  have hs : ∀ b e n, w.shape? b = some (e, n) → w'.shape? b = some (e, n) := fun b e n hb => by simpa [World.shape?, hw] using hb
  have g : Grow ρ w ρ w' := ⟨fun _ _ h => h, hs⟩
  refine ⟨⟨fun i o hi => ?_, r.inj, r.fresh, fun i b hb => by rw [hw]; exact r.bound i b hb⟩, ⟨fun _ _ h => h, fun _ _ h => .inl h, fun _ h => .inr h, fun x _ _ => by rw [hw], hs, by rw [hw]; exact Nat.le_refl _, ht, hos, hout, Nat.le_refl _⟩⟩
  obtain ⟨b, c, h1, h2, h3⟩ := r.obj i o hi
  exact ⟨b, c, h1, by rw [hw]; exact h2, h3.mono g⟩

/-- the next id rises -/
theorem Rel.bump {ρ : Ren} {h : Heap} {w : World} (r : Rel ρ h w) (k : Nat) : Rel ρ ⟨h.t, h.next + k⟩ w :=
  ⟨r.obj, r.inj, fun id hid => r.fresh id (by show h.next ≤ id; have : h.next + k ≤ id := hid; omega), r.bound⟩

/-- an object is let go -/
theorem Rel.del {ρ : Ren} {h : Heap} {w : World} (r : Rel ρ h w) (id : Nat) : Rel ρ (h.del id) w :=
  ⟨fun i o hi => r.obj i o (Heap.get_del hi).2, fun i j oi oj b hi hj => r.inj i j oi oj b (Heap.get_del hi).2 (Heap.get_del hj).2, r.fresh, r.bound⟩

end Cv
