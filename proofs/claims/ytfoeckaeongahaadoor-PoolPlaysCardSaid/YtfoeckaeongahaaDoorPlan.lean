/- A region that draws its order, walked in one order of one's own choice: quiet steps first, each step that turns the world behind the quiet steps that do not wait for it, these being shown to read the same behind it. -/
import Derived.WalkKit
import Derived.StillTailTactics
namespace Go.Proofs.YtfoeckaeongahaaDoor

/-- A step of a plan: a quiet one (it leaves the world alone), or one that turns the world; behind it the quiet steps ps, made ahead of it, must come to the same once more. -/
inductive PStep where
  | q (i : Nat)
  | e (i : Nat) (ps : List Nat)

def PStep.idx : PStep → Nat
  | .q i => i
  | .e i _ => i

/-- A plan. 'alt': which of some steps that turn the world is made first is left open: each is shown. -/
inductive Tree where
  | nil
  | q (i : Nat) (t : Tree)
  | e (i : Nat) (ps : List Nat) (t : Tree)
  | alt (t u : Tree)

def NoWay : Exit → Act → World → Prop := fun _ _ _ => False

def Stab (P : Program) (ops : Array Oper) : List Nat → Act → World → Prop
  | [], _, _ => True
  | y :: ys, a, w => stOp P ops w y (fun a' => a' = a) a ∧ Stab P ops ys a w

def wpPlan (P : Program) (ops : Array Oper) (Q : Exit → Act → World → Prop) : Tree → Act → World → Prop
  | .nil, a, w => Q .normal a w
  | .q i rest, a, w => stOp P ops w i (fun a' => wpPlan P ops Q rest a' w) a
  | .e i ps rest, a, w => wpOp P ops NoWay i (fun a' w' => Stab P ops ps a' w' ∧ wpPlan P ops Q rest a' w') a w
  | .alt t u, a, w => wpPlan P ops Q t a w ∧ wpPlan P ops Q u a w

/-- Quiet steps ahead of a plan. -/
def qs : List Nat → Tree → Tree
  | [], t => t
  | i :: l, t => .q i (qs l t)

def Tree.all (p : PStep → Prop) : Tree → Prop
  | .nil => True
  | .q i t => p (.q i) ∧ t.all p
  | .e i ps t => p (.e i ps) ∧ t.all p
  | .alt t u => t.all p ∧ u.all p

def Tree.heads : Tree → List Nat
  | .nil => []
  | .q _ _ => []
  | .e i _ _ => [i]
  | .alt t u => t.heads ++ u.heads

/-- On each way through it the plan makes just the steps S, each once. -/
def Tree.has : Tree → (Nat → Prop) → Prop
  | .nil, S => ∀ j, ¬ S j
  | .q i t, S => S i ∧ t.has (fun j => S j ∧ j ≠ i)
  | .e i _ t, S => S i ∧ t.has (fun j => S j ∧ j ≠ i)
  | .alt t u, S => t.has S ∧ u.has S

def Tree.deep : Tree → Nat → Prop
  | .nil, n => n = 0
  | .q _ t, n => ∃ m, n = m + 1 ∧ t.deep m
  | .e _ _ t, n => ∃ m, n = m + 1 ∧ t.deep m
  | .alt t u, n => t.deep n ∧ u.deep n

section
variable {P : Program} {md : Region.Mode} {ops : Array Oper} {Q : Exit → Act → World → Prop}

def ClosedL (md : Region.Mode) (ops : Array Oper) (listed : Array Bool) : Prop :=
  ∀ (j : Nat) (oj : Oper), ops[j]? = some oj → listed.getD j false = true → ∀ e ∈ oj.after, Region.binds md e = true → listed.getD e.on false = true

structure PairP (md : Region.Mode) (ops : Array Oper) (H : List Nat) (x s : PStep) : Prop where
  ne : x.idx ≠ s.idx
  ssa : ∀ ox os, ops[x.idx]? = some ox → ops[s.idx]? = some os → ∀ d, os.dst = some d → d ∉ ox.looksAt ops ∧ ox.dst ≠ some d
  lin : ∀ ox, ops[x.idx]? = some ox → ∀ e ∈ ox.after, Region.binds md e = true → e.on ≠ s.idx
  way : (∀ listed os, ops[s.idx]? = some os → ClosedL md ops listed → (∀ e ∈ os.after, Region.binds md e = true → listed.getD e.on false = true) → listed.getD x.idx false = true) ∨
    ((∃ i, x = .q i) ∧ (∀ ox os, ops[x.idx]? = some ox → ops[s.idx]? = some os → ox.apart ops os = true) ∧ ∀ i ps, s = .e i ps → x.idx ∈ ps) ∨
    ∃ h ∈ H, s.idx = h ∨ ∀ listed os, ops[s.idx]? = some os → ClosedL md ops listed → (∀ e ∈ os.after, Region.binds md e = true → listed.getD e.on false = true) → listed.getD h false = true

structure SelfP (md : Region.Mode) (ops : Array Oper) (s : PStep) : Prop where
  isOp : ∃ o, ops[s.idx]? = some o
  own : ∀ o, ops[s.idx]? = some o → ∀ d, o.dst = some d → d ∉ o.looksAt ops
  lin : ∀ o, ops[s.idx]? = some o → ∀ e ∈ o.after, Region.binds md e = true → e.on ≠ s.idx

/-! ### The check, for the kernel. -/
def depsOf (md : Region.Mode) (acc : List (Nat × Nat)) (o : Oper) : Nat :=
  o.after.toList.foldr (fun e m => if Region.binds md e then m ||| (2 ^ e.on) ||| ((acc.lookup e.on).getD 0) else m) 0

def selfB (md : Region.Mode) (ops : Array Oper) (s : PStep) (o : Oper) : Bool :=
  (match o.dst with | some d => !(o.looksAt ops).contains d | none => true) && o.after.toList.all fun e => !Region.binds md e || e.on != s.idx

def pairB (md : Region.Mode) (ops : Array Oper) (D : Nat) (H : List Nat) (x s : PStep) (os : Oper) : Bool :=
  match ops[x.idx]? with
  | none => false
  | some ox =>
    x.idx != s.idx && (match os.dst with | some d => !(ox.looksAt ops).contains d && ox.dst != some d | none => true) &&
    (ox.after.toList.all fun e => !Region.binds md e || e.on != s.idx) &&
    (D.testBit x.idx || (match x with | .q _ => ox.apart ops os && (match s with | .e _ ps => ps.contains x.idx | .q _ => true) | .e .. => false) || H.any fun h => s.idx == h || D.testBit h)

def nodeB (md : Region.Mode) (ops : Array Oper) (done : List (PStep × List Nat)) (acc : List (Nat × Nat)) (s : PStep) : Bool :=
  match ops[s.idx]? with
  | none => false
  | some o => selfB md ops s o && done.all (fun x => pairB md ops (depsOf md acc o) x.2 x.1 s o)

def accUp (md : Region.Mode) (ops : Array Oper) (acc : List (Nat × Nat)) (s : PStep) : List (Nat × Nat) :=
  match ops[s.idx]? with
  | none => acc
  | some o => (s.idx, depsOf md acc o) :: acc

def chk (md : Region.Mode) (ops : Array Oper) : Option (List Nat) → List (PStep × List Nat) → List (Nat × Nat) → Tree → Bool
  | h, _, _, .nil => h.isNone
  | h, done, acc, .q i t => h.isNone && nodeB md ops done acc (.q i) && chk md ops none ((.q i, []) :: done) (accUp md ops acc (.q i)) t
  | h, done, acc, .e i ps t => nodeB md ops done acc (.e i ps) && chk md ops none ((.e i ps, h.getD []) :: done) (accUp md ops acc (.e i ps)) t
  | none, done, acc, .alt t u => chk md ops (some (t.heads ++ u.heads)) done acc t && chk md ops (some (t.heads ++ u.heads)) done acc u
  | some H, done, acc, .alt t u => chk md ops (some H) done acc t && chk md ops (some H) done acc u

def hasB : List Nat → Tree → Bool
  | l, .nil => l.isEmpty
  | l, .q i t => l.contains i && hasB (l.filter (· != i)) t
  | l, .e i _ t => l.contains i && hasB (l.filter (· != i)) t
  | l, .alt t u => hasB l t && hasB l u

def deepB : Nat → Tree → Bool
  | n, .nil => n == 0
  | n + 1, .q _ t => deepB n t
  | n + 1, .e _ _ t => deepB n t
  | n, .alt t u => deepB n t && deepB n u
  | 0, _ => false

def planB (md : Region.Mode) (ops : Array Oper) (plan : Tree) : Bool :=
  Region.noSelect ops && deepB ops.size plan && hasB (List.range ops.size) plan && chk md ops none [] [] plan

def AccOK (md : Region.Mode) (ops : Array Oper) (acc : List (Nat × Nat)) : Prop :=
  ∀ i D, acc.lookup i = some D → ∃ o, ops[i]? = some o ∧ ∀ listed, ClosedL md ops listed → (∀ e ∈ o.after, Region.binds md e = true → listed.getD e.on false = true) → ∀ x, D.testBit x = true → listed.getD x false = true

theorem foldr_bits {acc : List (Nat × Nat)} (hacc : AccOK md ops acc) {listed : Array Bool} (hcl : ClosedL md ops listed) :
    ∀ (l : List Edge), (∀ e ∈ l, Region.binds md e = true → listed.getD e.on false = true) → ∀ x, (l.foldr (fun e m => if Region.binds md e then m ||| (2 ^ e.on) ||| ((acc.lookup e.on).getD 0) else m) 0).testBit x = true → listed.getD x false = true
  | [], _, x, h => by simp at h
  | e :: l, hl, x, h => by
    simp only [List.foldr_cons] at h
    split at h
    · rename_i hb
      have he := hl e (List.mem_cons_self ..) hb
      rw [Nat.testBit_or, Nat.testBit_or, Bool.or_eq_true, Bool.or_eq_true] at h
      rcases h with (h | h) | h
      · exact foldr_bits hacc hcl l (fun e' h' => hl e' (List.mem_cons_of_mem _ h')) x h
      · rw [Nat.testBit_two_pow] at h
        have : e.on = x := by simpa using h
        rw [← this]
        exact he
      · cases hk : acc.lookup e.on with
        | none => rw [hk] at h; simp at h
        | some D =>
          rw [hk] at h
          obtain ⟨oe, hoe, hall⟩ := hacc e.on D hk
          exact hall listed hcl (hcl e.on oe hoe he) x h
    · exact foldr_bits hacc hcl l (fun e' h' => hl e' (List.mem_cons_of_mem _ h')) x h

theorem accOK_cons {acc : List (Nat × Nat)} (hacc : AccOK md ops acc) {s : PStep} {o : Oper} (ho : ops[s.idx]? = some o) : AccOK md ops ((s.idx, depsOf md acc o) :: acc) := by
  intro i D hi
  rw [List.lookup_cons] at hi
  split at hi
  · rename_i heq
    have heq' : i = s.idx := by simpa using heq
    injection hi with hi
    subst heq'
    subst hi
    exact ⟨o, ho, fun listed hcl hr x hx => foldr_bits hacc hcl o.after.toList (fun e he => hr e (by simpa using he)) x hx⟩
  · exact hacc i D hi

theorem selfP_of {s : PStep} {o : Oper} (ho : ops[s.idx]? = some o) (h : selfB md ops s o = true) : SelfP md ops s := by
  unfold selfB at h
  rw [Bool.and_eq_true] at h
  refine ⟨⟨o, ho⟩, fun o' ho' d hd => ?_, fun o' ho' e he hb => ?_⟩
  · obtain rfl : o' = o := Option.some.inj (ho'.symm.trans ho)
    have h1 := h.1
    simp [hd] at h1
    exact h1
  · obtain rfl : o' = o := Option.some.inj (ho'.symm.trans ho)
    have h2 := List.all_eq_true.1 h.2 e (by simpa using he)
    simp [hb] at h2
    exact h2

theorem pairP_of {acc : List (Nat × Nat)} (hacc : AccOK md ops acc) {H : List Nat} {x s : PStep} {os : Oper} (hos : ops[s.idx]? = some os) (h : pairB md ops (depsOf md acc os) H x s os = true) : PairP md ops H x s := by
  unfold pairB at h
  cases hox : ops[x.idx]? with
  | none => rw [hox] at h; cases h
  | some ox =>
    rw [hox] at h
    simp only [Bool.and_eq_true] at h
    obtain ⟨⟨⟨h0, h1⟩, h2⟩, h3⟩ := h
    refine ⟨by simpa using h0, fun ox' os' hx' hs' d hd => ?_, fun ox' hx' e he hb => ?_, ?_⟩
    · obtain rfl : ox' = ox := Option.some.inj (hx'.symm.trans hox)
      obtain rfl : os' = os := Option.some.inj (hs'.symm.trans hos)
      simp [hd] at h1
      exact h1
    · obtain rfl : ox' = ox := Option.some.inj (hx'.symm.trans hox)
      have h4 := List.all_eq_true.1 h2 e (by simpa using he)
      simp [hb] at h4
      exact h4
    · rw [Bool.or_eq_true, Bool.or_eq_true] at h3
      rcases h3 with (h3 | h3) | h3
      · refine .inl fun listed os' hs' hcl hr => ?_
        obtain rfl : os' = os := Option.some.inj (hs'.symm.trans hos)
        exact foldr_bits hacc hcl os'.after.toList (fun e he => hr e (by simpa using he)) x.idx h3
      · refine .inr (.inl ?_)
        cases x with
        | e i ps => simp at h3
        | q i =>
          simp only [Bool.and_eq_true] at h3
          refine ⟨⟨i, rfl⟩, fun ox' os' hx' hs' => ?_, fun j ps hj => ?_⟩
          · obtain rfl : ox' = ox := Option.some.inj (hx'.symm.trans hox)
            obtain rfl : os' = os := Option.some.inj (hs'.symm.trans hos)
            exact h3.1
          · subst hj
            simpa using h3.2
      · obtain ⟨h, hh, hs⟩ := List.any_eq_true.1 h3
        refine .inr (.inr ⟨h, hh, ?_⟩)
        rw [Bool.or_eq_true] at hs
        rcases hs with hs | hs
        · exact .inl (by simpa using hs)
        · refine .inr fun listed os' hs' hcl hr => ?_
          obtain rfl : os' = os := Option.some.inj (hs'.symm.trans hos)
          exact foldr_bits hacc hcl os'.after.toList (fun e he => hr e (by simpa using he)) h hs

def Good (md : Region.Mode) (ops : Array Oper) : Option (List Nat) → Tree → Prop
  | h, .nil => h = none
  | h, .q i t => h = none ∧ SelfP md ops (.q i) ∧ t.all (PairP md ops [] (.q i)) ∧ Good md ops none t
  | h, .e i ps t => SelfP md ops (.e i ps) ∧ t.all (PairP md ops (h.getD []) (.e i ps)) ∧ Good md ops none t
  | none, .alt t u => Good md ops (some (t.heads ++ u.heads)) t ∧ Good md ops (some (t.heads ++ u.heads)) u
  | some H, .alt t u => Good md ops (some H) t ∧ Good md ops (some H) u

theorem nodeB_spec {done : List (PStep × List Nat)} {acc : List (Nat × Nat)} {s : PStep} (hacc : AccOK md ops acc) (h : nodeB md ops done acc s = true) :
    SelfP md ops s ∧ AccOK md ops (accUp md ops acc s) ∧ ∀ x ∈ done, PairP md ops x.2 x.1 s := by
  unfold nodeB at h
  unfold accUp
  cases ho : ops[s.idx]? with
  | none => rw [ho] at h; cases h
  | some o =>
    rw [ho] at h
    simp only [Bool.and_eq_true] at h
    exact ⟨selfP_of ho h.1, accOK_cons hacc ho, fun x hx => pairP_of hacc ho (List.all_eq_true.1 h.2 x hx)⟩

theorem chk_spec : ∀ (t : Tree) (h : Option (List Nat)) (done : List (PStep × List Nat)) (acc : List (Nat × Nat)), AccOK md ops acc → chk md ops h done acc t = true →
    Good md ops h t ∧ ∀ x ∈ done, t.all (PairP md ops x.2 x.1)
  | .nil, h, done, acc, _, hc => ⟨by cases h <;> simp_all [chk, Good], fun _ _ => trivial⟩
  | .q i t, h, done, acc, hacc, hc => by
    simp only [chk, Bool.and_eq_true] at hc
    obtain ⟨⟨h0, h1⟩, h2⟩ := hc
    obtain ⟨r1, r2, r3⟩ := nodeB_spec hacc h1
    obtain ⟨g1, g2⟩ := chk_spec t none _ _ r2 h2
    exact ⟨⟨by simpa using h0, r1, g2 _ (List.mem_cons_self ..), g1⟩, fun x hx => ⟨r3 x hx, g2 x (List.mem_cons_of_mem _ hx)⟩⟩
  | .e i ps t, h, done, acc, hacc, hc => by
    simp only [chk, Bool.and_eq_true] at hc
    obtain ⟨h1, h2⟩ := hc
    obtain ⟨r1, r2, r3⟩ := nodeB_spec hacc h1
    obtain ⟨g1, g2⟩ := chk_spec t none _ _ r2 h2
    exact ⟨⟨r1, g2 _ (List.mem_cons_self ..), g1⟩, fun x hx => ⟨r3 x hx, g2 x (List.mem_cons_of_mem _ hx)⟩⟩
  | .alt t u, none, done, acc, hacc, hc => by
    simp only [chk, Bool.and_eq_true] at hc
    obtain ⟨g1, g2⟩ := chk_spec t _ done acc hacc hc.1
    obtain ⟨k1, k2⟩ := chk_spec u _ done acc hacc hc.2
    exact ⟨⟨g1, k1⟩, fun x hx => ⟨g2 x hx, k2 x hx⟩⟩
  | .alt t u, some H, done, acc, hacc, hc => by
    simp only [chk, Bool.and_eq_true] at hc
    obtain ⟨g1, g2⟩ := chk_spec t _ done acc hacc hc.1
    obtain ⟨k1, k2⟩ := chk_spec u _ done acc hacc hc.2
    exact ⟨⟨g1, k1⟩, fun x hx => ⟨g2 x hx, k2 x hx⟩⟩

theorem has_congr {S T : Nat → Prop} : ∀ (t : Tree), (∀ j, S j ↔ T j) → t.has S → t.has T
  | .nil, e, h => fun j hj => h j ((e j).2 hj)
  | .q i t, e, h => ⟨(e i).1 h.1, has_congr t (fun j => by rw [e j]) h.2⟩
  | .e i ps t, e, h => ⟨(e i).1 h.1, has_congr t (fun j => by rw [e j]) h.2⟩
  | .alt t u, e, h => ⟨has_congr t e h.1, has_congr u e h.2⟩

theorem hasB_spec : ∀ (t : Tree) (l : List Nat), hasB l t = true → t.has (· ∈ l)
  | .nil, l, h => fun j hj => by
    have : l = [] := by simpa [hasB] using h
    rw [this] at hj
    cases hj
  | .q i t, l, h => by
    simp only [hasB, Bool.and_eq_true] at h
    exact ⟨by simpa using h.1, has_congr t (fun j => by simp) (hasB_spec t _ h.2)⟩
  | .e i ps t, l, h => by
    simp only [hasB, Bool.and_eq_true] at h
    exact ⟨by simpa using h.1, has_congr t (fun j => by simp) (hasB_spec t _ h.2)⟩
  | .alt t u, l, h => by
    simp only [hasB, Bool.and_eq_true] at h
    exact ⟨hasB_spec t l h.1, hasB_spec u l h.2⟩

theorem deepB_spec : ∀ (t : Tree) (n : Nat), deepB n t = true → t.deep n
  | .nil, n, h => by
    cases n <;> simp_all [deepB, Tree.deep]
  | .q i t, n, h => by
    cases n with
    | zero => simp [deepB] at h
    | succ n => exact ⟨n, rfl, deepB_spec t n h⟩
  | .e i ps t, n, h => by
    cases n with
    | zero => simp [deepB] at h
    | succ n => exact ⟨n, rfl, deepB_spec t n h⟩
  | .alt t u, n, h => by
    have h' : (deepB n t && deepB n u) = true := by cases n <;> exact h
    rw [Bool.and_eq_true] at h'
    exact ⟨deepB_spec t n h'.1, deepB_spec u n h'.2⟩

/-- A step that the plan makes stands in it. -/
theorem all_of_has {p : PStep → Prop} : ∀ (t : Tree) (S : Nat → Prop), t.has S → t.all p → ∀ j, S j → ∃ s : PStep, s.idx = j ∧ p s
  | .nil, S, h, _, j, hj => absurd hj (h j)
  | .q i t, S, h, ha, j, hj => by
    by_cases e : j = i
    · exact ⟨.q i, e.symm, ha.1⟩
    · exact all_of_has t _ h.2 ha.2 j ⟨hj, e⟩
  | .e i ps t, S, h, ha, j, hj => by
    by_cases e : j = i
    · exact ⟨.e i ps, e.symm, ha.1⟩
    · exact all_of_has t _ h.2 ha.2 j ⟨hj, e⟩
  | .alt t u, S, h, ha, j, hj => all_of_has t S h.1 ha.1 j hj

/-! ### Swapping. -/
theorem put_put (a : Act) (d : Option Tmp) (v u : Value) : (a.put d v).put d u = a.put d u := by
  cases d with
  | none => rfl
  | some d => simp [Act.put]

theorem put_same_of {a : Act} {x y : Option Tmp} {v u : Value} (h : ∀ d, y = some d → x ≠ some d) (e : (a.put y v).put x u = a.put y v) : a.put x u = a := by
  cases x with
  | none => rfl
  | some d =>
    have hne : y ≠ some d := fun hy => h d hy rfl
    cases y with
    | none => exact e
    | some d' =>
      have hdd : d' ≠ d := fun q => hne (by rw [q])
      simp only [Act.put] at e ⊢
      have e1 := congrArg Act.tmps e
      simp only at e1
      have : a.tmps.setIfInBounds d u = a.tmps := by
        apply Array.ext_getElem?
        intro j
        by_cases hj : d = j
        · subst hj
          have e2 := congrArg (fun t => t[d]?) e1
          simp only [Array.getElem?_setIfInBounds_self, Array.getElem?_setIfInBounds_ne hdd, Array.size_setIfInBounds] at e2
          simp only [Array.getElem?_setIfInBounds_self]
          exact e2
        · simp [Array.getElem?_setIfInBounds_ne hj]
      rw [this]

theorem yieldsAt_put {w : World} {o : Oper} {v : Value} {a : Act} (hs : ∀ cs b, o.op ≠ .select cs b) (dst : Option Tmp) (u : Value) (h : ∀ d, dst = some d → d ∉ o.looksAt ops) :
    YieldsAt P ops w o v (a.put dst u) ↔ YieldsAt P ops w o v a :=
  ⟨fun hy => hy.of_same (execOp_put o hs a dst u h).symm (wanted_put o a dst u h).symm, fun hy => hy.of_same (execOp_put o hs a dst u h) (wanted_put o a dst u h)⟩

/-- A step made ahead of another one's result: as it would be behind it. -/
theorem wpOp_unput {j : Nat} {oi oj : Oper} {v : Value} (hj : ops[j]? = some oj) (hap : oi.apart ops oj = true) (hsj : ∀ cs b, oj.op ≠ .select cs b) {K : Act → World → Prop} {a : Act} {w : World}
    (h : wpOp P ops NoWay j K (a.put oi.dst v) w) : wpOp P ops NoWay j (fun a' w' => K (a'.put oi.dst v) w') a w := by
  obtain ⟨h1, h2, _⟩ := Oper.apart_spec hap
  unfold wpOp at *
  simp only [hj] at *
  rw [wanted_put oj a oi.dst v h1] at h
  split
  · rename_i hw
    simp only [hw, if_true] at h
    rcases h with h | ⟨_, _, _, hlets⟩
    case inr => exact hlets.elim
    refine .inl ?_
    unfold Oper.wp at *
    rw [execOp_put oj hsj a oi.dst v h1] at h
    generalize (execOp a.eval oj).run P w = r at *
    cases r with
    | ok n w' =>
      cases n <;> simp only [Oper.upon] at h ⊢
      case value u => rw [← Act.put_comm a v u h2]; exact h
      case skip => rw [← Act.put_comm a v undef h2]; exact h
      case defer d =>
        rw [← Act.put_comm _ v undef h2, ← Act.put_defers]
        exact h
      case enter f args =>
        refine Calls.mono h fun e w'' he => ?_
        cases e with
        | returned u => show K ((a.put oj.dst u).put oi.dst v) w''; rw [← Act.put_comm a v u h2]; exact he
        | panicked c => exact he
        | outgrown => exact he
      case row row args => exact Rows.mono h fun u w'' he => by rw [← Act.put_comm a v u h2]; exact he
    | halt x w' =>
      cases x <;> simp only [Oper.upon] at h ⊢
      case panic u => exact h
  · rename_i hw
    simp only [hw] at h
    rw [← Act.put_comm a v undef h2]; exact h

theorem wpOp_way {i : Nat} {K : Act → World → Prop} {a : Act} {w : World} (h : wpOp P ops NoWay i K a w) : wpOp P ops Q i K a w := by
  unfold wpOp at *
  split
  · rename_i ho; simpa only [ho] using h
  · rename_i o ho
    simp only [ho] at h
    split
    · rename_i hw
      simp only [hw, if_true] at h
      rcases h with h | ⟨_, _, _, hlets⟩
      case inr => exact hlets.elim
      refine .inl ?_
      unfold Oper.wp at *
      generalize (execOp a.eval o).run P w = r at *
      cases r with
      | ok n w' =>
        cases n <;> simp only [Oper.upon] at h ⊢
        case enter f args =>
          refine Calls.mono h fun e w'' he => ?_
          cases e with
          | returned u => exact he
          | panicked c => exact he.elim
          | outgrown => exact (by obtain ⟨_, _, q⟩ := he; exact q.elim)
        all_goals exact h
      | halt x w' =>
        cases x <;> simp only [Oper.upon] at h ⊢
        case panic u => exact h.elim
    · rename_i hw
      rw [if_neg hw] at h
      exact h

/-- A quiet step and a step, the one made ahead of the other. -/
theorem stOp_swap {w : World} {i j : Nat} {oi oj : Oper} (hi : ops[i]? = some oi) (hj : ops[j]? = some oj) (hap : oi.apart ops oj = true) (hsi : ∀ cs b, oi.op ≠ .select cs b) (hsj : ∀ cs b, oj.op ≠ .select cs b)
    {K : Act → Prop} {a : Act} (h : stOp P ops w i (fun a1 => stOp P ops w j K a1) a) : stOp P ops w j (fun a1 => stOp P ops w i K a1) a := by
  obtain ⟨v, hy, h1⟩ := yieldsAt_of_stOp hi h
  have h2 := stOp_put hj hap hsi hsj hy h1
  refine stOp_mono (fun a' ⟨hy', hk⟩ => hy'.stOp hi hk) h2

theorem stab_mem {ps : List Nat} {a : Act} {w : World} (h : Stab P ops ps a w) : ∀ y ∈ ps, stOp P ops w y (fun a' => a' = a) a := by
  induction ps with
  | nil => intro y hy; cases hy
  | cons p ps ih =>
    intro y hy
    rcases List.mem_cons.1 hy with rfl | hy
    · exact h.1
    · exact ih h.2 y hy

/-- What is asked of quiet steps pre and a step s behind them. -/
def Before (md : Region.Mode) (ops : Array Oper) : List Nat → Prop
  | [] => True
  | x :: l => SelfP md ops (.q x) ∧ (∀ y ∈ l, ∀ ox oy, ops[x]? = some ox → ops[y]? = some oy → ∀ d, oy.dst = some d → d ∉ ox.looksAt ops ∧ ox.dst ≠ some d) ∧ Before md ops l

/-- The step i, made ahead of the quiet ones pre. L: those whose reading anew is still owed. -/
theorem front_e (hsel : ∀ (j : Nat) (o : Oper) cs b, ops[j]? = some o → o.op ≠ .select cs b) {i : Nat} {ps : List Nat} {post : Tree} (hoi : ∃ oi, ops[i]? = some oi) :
    ∀ (pre : List Nat) (L : List Nat) (a : Act) (w : World), (∀ x ∈ pre, ∀ ox os, ops[x]? = some ox → ops[i]? = some os → ox.apart ops os = true) → (∀ x ∈ pre, x ∈ ps) → (∀ y ∈ L, y ∈ ps) →
      Before md ops pre → (∀ y ∈ L, ∀ s ∈ pre, ∀ oy os, ops[y]? = some oy → ops[s]? = some os → ∀ d, os.dst = some d → d ∉ oy.looksAt ops ∧ oy.dst ≠ some d) →
      wpPlan P ops Q (qs pre (.e i ps post)) a w →
      wpOp P ops NoWay i (fun a' w' => (∀ y ∈ L, stOp P ops w' y (fun a'' => a'' = a') a') ∧ wpPlan P ops Q (qs pre post) a' w') a w
  | [], L, a, w, _, _, hL, _, _, h => wpOp_mono (fun a' w' ⟨h1, h2⟩ => ⟨fun y hy => stab_mem h1 y (hL y hy), h2⟩) h
  | k :: pre, L, a, w, hap, hin, hL, ⟨hself, hbef, hbefs⟩, hLs, h => by
    obtain ⟨oi, hoi⟩ := hoi
    obtain ⟨ok, hok⟩ := hself.isOp
    have hok' : ops[k]? = some ok := hok
    simp only [qs, wpPlan] at h
    obtain ⟨v, hy, h1⟩ := yieldsAt_of_stOp hok' h
    have ih := front_e hsel ⟨oi, hoi⟩ pre (k :: L) (a.put ok.dst v) w (fun x hx => hap x (List.mem_cons_of_mem _ hx)) (fun x hx => hin x (List.mem_cons_of_mem _ hx))
      (fun y hy => by rcases List.mem_cons.1 hy with rfl | hy; exact hin _ (List.mem_cons_self ..); exact hL y hy) hbefs
      (fun y hy s hs oy os hoy hos => by
        rcases List.mem_cons.1 hy with rfl | hy
        · exact hbef s hs oy os hoy hos
        · exact hLs y hy s (List.mem_cons_of_mem _ hs) oy os hoy hos) h1
    refine wpOp_mono (fun a' w' ⟨hst, hp⟩ => ?_) (wpOp_unput hoi (hap _ (List.mem_cons_self ..) ok oi hok' hoi) (hsel i oi · · hoi) ih)
    have hk := hst k (List.mem_cons_self ..)
    obtain ⟨v', hy', he'⟩ := yieldsAt_of_stOp hok' hk
    rw [put_put] at he'
    have hself' := hself.own ok hok
    rw [yieldsAt_put (hsel k ok · · hok') ok.dst v hself'] at hy'
    refine ⟨fun y hyL => ?_, ?_⟩
    · have h3 := hst y (List.mem_cons_of_mem _ hyL)
      cases hoy : ops[y]? with
      | none => unfold stOp; simp only [hoy]
      | some oy =>
        obtain ⟨u, hyu, heu⟩ := yieldsAt_of_stOp hoy h3
        have hd := fun d hd => hLs y hyL _ (List.mem_cons_self ..) oy ok hoy hok d hd
        rw [yieldsAt_put (hsel y oy · · hoy) ok.dst v (fun d e => (hd d e).1)] at hyu
        exact hyu.stOp hoy (put_same_of (fun d e => (hd d e).2) heu)
    · show wpPlan P ops Q (.q k (qs pre post)) a' w'
      simp only [wpPlan]
      exact hy'.stOp hok' (by rw [he']; exact hp)

theorem front_q (hsel : ∀ (j : Nat) (o : Oper) cs b, ops[j]? = some o → o.op ≠ .select cs b) {i : Nat} {post : Tree} (hoi : ∃ oi, ops[i]? = some oi) :
    ∀ (pre : List Nat) (a : Act) (w : World), (∀ x ∈ pre, ∀ ox os, ops[x]? = some ox → ops[i]? = some os → ox.apart ops os = true) →
      Before md ops pre → wpPlan P ops Q (qs pre (.q i post)) a w → stOp P ops w i (fun a' => wpPlan P ops Q (qs pre post) a' w) a
  | [], a, w, _, _, h => h
  | k :: pre, a, w, hap, ⟨hself, hbef, hbefs⟩, h => by
    obtain ⟨oi, hoi⟩ := hoi
    obtain ⟨ok, hok⟩ := hself.isOp
    have hok' : ops[k]? = some ok := hok
    simp only [qs, wpPlan] at h ⊢
    refine stOp_swap hok' hoi (hap _ (List.mem_cons_self ..) ok oi hok' hoi) (hsel k ok · · hok') (hsel i oi · · hoi) (stOp_mono (fun a1 h1 => ?_) h)
    exact front_q hsel ⟨oi, hoi⟩ pre a1 w (fun x hx => hap x (List.mem_cons_of_mem _ hx)) hbefs h1

/-- What stands in a plan behind quiet steps: the step that is ready, alone or as one way of several. -/
inductive At : Tree → Tree → Prop where
  | here (t : Tree) : At t t
  | left {t u s : Tree} (h : At t s) : At (.alt t u) s
  | right {t u s : Tree} (h : At u s) : At (.alt t u) s

theorem wpPlan_at {t s : Tree} (h : At t s) : ∀ {a : Act} {w : World}, wpPlan P ops Q t a w → wpPlan P ops Q s a w := by
  induction h with
  | here t => exact fun h => h
  | left _ ih => exact fun h => ih h.1
  | right _ ih => exact fun h => ih h.2
theorem has_at {t s : Tree} (h : At t s) {S : Nat → Prop} : t.has S → s.has S := by
  induction h with
  | here t => exact fun h => h
  | left _ ih => exact fun h => ih h.1
  | right _ ih => exact fun h => ih h.2
theorem deep_at {t s : Tree} (h : At t s) {n : Nat} : t.deep n → s.deep n := by
  induction h with
  | here t => exact fun h => h
  | left _ ih => exact fun h => ih h.1
  | right _ ih => exact fun h => ih h.2
theorem all_at {t s : Tree} (h : At t s) {p : PStep → Prop} : t.all p → s.all p := by
  induction h with
  | here t => exact fun h => h
  | left _ ih => exact fun h => ih h.1
  | right _ ih => exact fun h => ih h.2
theorem wpPlan_qs {t s : Tree} (h : ∀ {a : Act} {w : World}, wpPlan P ops Q t a w → wpPlan P ops Q s a w) : ∀ (pre : List Nat) {a : Act} {w : World}, wpPlan P ops Q (qs pre t) a w → wpPlan P ops Q (qs pre s) a w
  | [], _, _, hh => h hh
  | _ :: pre, _, _, hh => stOp_mono (fun _ h1 => wpPlan_qs h pre h1) hh

/-- One of several: the steps that stand at the heads. -/
theorem at_head {H : List Nat} : ∀ (t : Tree), Good md ops (some H) t → ∀ j ∈ t.heads, ∃ ps s, At t (.e j ps s) ∧ Good md ops (some H) (.e j ps s)
  | .nil, hg, j, hj => by cases hj
  | .q i t, hg, j, hj => by cases hj
  | .e i ps t, hg, j, hj => by
    simp only [Tree.heads, List.mem_singleton] at hj
    subst hj
    exact ⟨ps, t, .here _, hg⟩
  | .alt t u, hg, j, hj => by
    rcases List.mem_append.1 hj with hj | hj
    · obtain ⟨ps, s, h1, h2⟩ := at_head t hg.1 j hj
      exact ⟨ps, s, .left h1, h2⟩
    · obtain ⟨ps, s, h1, h2⟩ := at_head u hg.2 j hj
      exact ⟨ps, s, .right h1, h2⟩
theorem some_head {H : List Nat} : ∀ (t : Tree), Good md ops (some H) t → ∃ j ps s, At t (.e j ps s) ∧ Good md ops (some H) (.e j ps s) ∧ j ∈ t.heads
  | .nil, hg => by cases hg
  | .q i t, hg => by cases hg.1
  | .e i ps t, hg => ⟨i, ps, t, .here _, hg, List.mem_singleton.2 rfl⟩
  | .alt t u, hg => by
    obtain ⟨j, ps, s, h1, h2, h3⟩ := some_head t hg.1
    exact ⟨j, ps, s, .left h1, h2, List.mem_append_left _ h3⟩

theorem wpOp_of_st {w : World} {i : Nat} {K : Act → World → Prop} {a : Act} (h : stOp P ops w i (fun a' => K a' w) a) : wpOp P ops Q i K a w := wpOp_of_stOp (fun _ h => h) h

def node : PStep → Tree → Tree
  | .q i, r => .q i r
  | .e i ps, r => .e i ps r

theorem deep_pos : ∀ (t : Tree) (S : Nat → Prop) (i : Nat), t.has S → S i → t.deep 0 → False
  | .nil, S, i, hh, hi, _ => hh i hi
  | .q k t, S, i, hh, hi, ⟨m, e, _⟩ => by omega
  | .e k ps t, S, i, hh, hi, ⟨m, e, _⟩ => by omega
  | .alt t u, S, i, hh, hi, hd => deep_pos t S i hh.1 hi hd.1

/-- The plan, taken apart at a step that is ready: quiet steps ahead of it, and it. -/
theorem find_ready {listed : Array Bool} (hcl : ClosedL md ops listed) {i : Nat} {oi : Oper} (hoi : ops[i]? = some oi) (hdeps : ∀ e ∈ oi.after, Region.binds md e = true → listed.getD e.on false = true) :
    ∀ (t : Tree) (S : Nat → Prop), (∀ j, S j → listed.getD j false = false) → t.has S → S i → Good md ops none t →
      ∃ (pre : List Nat) (s : PStep) (r : Tree), s.idx = i ∧ (∀ (P : Program) (Q : Exit → Act → World → Prop) (a : Act) (w : World), wpPlan P ops Q t a w → wpPlan P ops Q (qs pre (node s r)) a w) ∧ Before md ops pre ∧
        (∀ x ∈ pre, S x ∧ PairP md ops [] (.q x) s) ∧ (∀ p : PStep → Prop, t.all p → p s ∧ (∀ x ∈ pre, p (.q x)) ∧ (qs pre r).all p) ∧
        (qs pre r).has (fun j => S j ∧ j ≠ i) ∧ Good md ops none (qs pre r) ∧ ∀ n, t.deep (n + 1) → (qs pre r).deep n
  | .nil, S, hS, hh, hi, _ => absurd hi (hh i)
  | .q k t, S, hS, hh, hi, ⟨_, hself, hall, hg⟩ => by
    by_cases e : i = k
    · subst e
      exact ⟨[], .q i, t, rfl, fun _ _ _ _ h => h, trivial, fun _ hx => (by cases hx), fun p hp => ⟨hp.1, fun _ hx => (by cases hx), hp.2⟩, hh.2, hg, fun n ⟨m, e, hd⟩ => (Nat.succ.inj e).symm ▸ hd⟩
    · obtain ⟨pre, s, r, h0, h1, h2, h3, h4, h5, h6, h7⟩ := find_ready hcl hoi hdeps t _ (fun j hj => hS j hj.1) hh.2 ⟨hi, e⟩ hg
      obtain ⟨k1, k2, k3⟩ := h4 _ hall
      refine ⟨k :: pre, s, r, h0, fun P Q a w h => stOp_mono (fun _ hh => h1 P Q _ _ hh) h, ⟨hself, fun y hy ox oy hox hoy => (k2 y hy).ssa ox oy hox hoy, h2⟩, fun x hx => ?_, fun p hp => ?_, ?_, ⟨rfl, hself, k3, h6⟩, fun n ⟨mm, e1, hd⟩ => ?_⟩
      · rcases List.mem_cons.1 hx with rfl | hx
        · exact ⟨hh.1, k1⟩
        · exact ⟨(h3 x hx).1.1, (h3 x hx).2⟩
      · obtain ⟨q1, q2, q3⟩ := h4 p hp.2
        refine ⟨q1, fun x hx => ?_, hp.1, q3⟩
        rcases List.mem_cons.1 hx with rfl | hx
        · exact hp.1
        · exact q2 x hx
      · exact ⟨⟨hh.1, fun e' => e e'.symm⟩, has_congr _ (fun j => by constructor <;> (rintro ⟨⟨a, b⟩, c⟩; exact ⟨⟨a, c⟩, b⟩)) h5⟩
      · obtain rfl : n = mm := by omega
        cases n with
        | zero => exact (deep_pos t _ i hh.2 ⟨hi, e⟩ hd).elim
        | succ n => exact ⟨n, rfl, h7 n hd⟩
  | .e k ps t, S, hS, hh, hi, ⟨hself, hall, hg⟩ => by
    by_cases e : i = k
    · subst e
      exact ⟨[], .e i ps, t, rfl, fun _ _ _ _ h => h, trivial, fun _ hx => (by cases hx), fun p hp => ⟨hp.1, fun _ hx => (by cases hx), hp.2⟩, hh.2, hg, fun n ⟨m, e, hd⟩ => (Nat.succ.inj e).symm ▸ hd⟩
    · exfalso
      obtain ⟨sk, hsk, hpk⟩ := all_of_has t _ hh.2 hall i ⟨hi, e⟩
      rcases hpk.way with hw | hw | hw
      · have hl := hw listed oi (by rw [hsk]; exact hoi) hcl hdeps
        have := hS k hh.1
        rw [show PStep.idx (.e k ps) = k from rfl, this] at hl
        cases hl
      · obtain ⟨z, hz⟩ := hw.1
        cases hz
      · obtain ⟨_, hq, _⟩ := hw
        cases hq
  | .alt t u, S, hS, hh, hi, hg => by
    have hg' : Good md ops (some (t.heads ++ u.heads)) (.alt t u) := hg
    by_cases hin : i ∈ t.heads ++ u.heads
    · obtain ⟨ps, s, h1, h2, h3, h4⟩ := at_head (.alt t u) hg' i hin
      have hd := fun n => deep_at h1 (n := n)
      exact ⟨[], .e i ps, s, rfl, fun P Q a w h => wpPlan_at h1 h, trivial, fun _ hx => (by cases hx), fun p hp => ⟨(all_at h1 hp).1, fun _ hx => (by cases hx), (all_at h1 hp).2⟩, (has_at h1 hh).2, h4, fun n hn => by
        obtain ⟨m, e, hm⟩ := hd _ hn
        obtain rfl : n = m := by omega
        exact hm⟩
    · exfalso
      obtain ⟨j, ps, s, h1, ⟨h2, h3, h4⟩, h5⟩ := some_head (.alt t u) hg'
      have hhas := has_at h1 hh
      have hij : i ≠ j := fun e => hin (e ▸ h5)
      obtain ⟨sk, hsk, hpk⟩ := all_of_has s _ hhas.2 h3 i ⟨hi, hij⟩
      rcases hpk.way with hw | hw | hw
      · have hl := hw listed oi (by rw [hsk]; exact hoi) hcl hdeps
        have := hS j hhas.1
        rw [show PStep.idx (.e j ps) = j from rfl, this] at hl
        cases hl
      · obtain ⟨z, hz⟩ := hw.1
        cases hz
      · obtain ⟨hd, hhd, hw⟩ := hw
        rcases hw with hw | hw
        · rw [hsk] at hw
          exact hin (hw ▸ hhd)
        · have hl := hw listed oi (by rw [hsk]; exact hoi) hcl hdeps
          obtain ⟨ps', s', h1', _⟩ := at_head (.alt t u) hg' hd hhd
          have := hS hd (has_at h1' hh).1
          rw [this] at hl
          cases hl

/-- Of a plan that is not at its end some step is ready. -/
theorem some_ready {listed : Array Bool} (hlt : ∀ (j : Nat) (oj : Oper), ops[j]? = some oj → ∀ e ∈ oj.after, Region.binds md e = true → e.on < ops.size) (hls : listed.size = ops.size) :
    ∀ (t : Tree) (h : Option (List Nat)), Good md ops h t → t.has (fun j => j < ops.size ∧ listed.getD j true = false) → ¬ t.deep 0 → Region.ready md ops listed ≠ [] := by
  have key : ∀ (s : PStep) (H : List Nat) (t : Tree), SelfP md ops s → t.all (PairP md ops H s) → (s.idx < ops.size ∧ listed.getD s.idx true = false) → t.has (fun j => (j < ops.size ∧ listed.getD j true = false) ∧ j ≠ s.idx) → Region.ready md ops listed ≠ [] := by
    intro s H t hself hall hs hh hr
    obtain ⟨o, ho⟩ := hself.isOp
    have : s.idx ∈ Region.ready md ops listed := by
      refine mem_ready.2 ⟨hs.2, o, ho, fun e he hb => ?_⟩
      have helt := hlt _ o ho e he hb
      have helt' : e.on < listed.size := by omega
      by_cases hl : listed.getD e.on true = false
      · exfalso
        have hne := hself.lin o ho e he hb
        obtain ⟨sk, hsk, hpk⟩ := all_of_has t _ hh hall e.on ⟨⟨helt, hl⟩, hne⟩
        exact hpk.lin o ho e he hb hsk.symm
      · simpa [Array.getD, helt'] using hl
    rw [hr] at this
    cases this
  intro t
  induction t with
  | nil => exact fun h hg hh hd => absurd rfl hd
  | q i t _ => exact fun h hg hh hd => key (.q i) [] t hg.2.1 hg.2.2.1 hh.1 hh.2
  | e i ps t _ => exact fun h hg hh hd => key (.e i ps) _ t hg.1 hg.2.1 hh.1 hh.2
  | alt t u iht ihu =>
    intro h hg hh hd
    by_cases h0 : t.deep 0
    · by_cases h1 : u.deep 0
      · exact absurd ⟨h0, h1⟩ hd
      · cases h with
        | none => exact ihu _ hg.2 hh.2 h1
        | some H => exact ihu _ hg.2 hh.2 h1
    · cases h with
      | none => exact iht _ hg.1 hh.1 h0
      | some H => exact iht _ hg.1 hh.1 h0

theorem deep_zero_nil : ∀ (t : Tree) (h : Option (List Nat)), Good md ops h t → t.deep 0 → t = .nil
  | .nil, _, _, _ => rfl
  | .q _ _, _, _, ⟨m, e, _⟩ => by omega
  | .e _ _ _, _, _, ⟨m, e, _⟩ => by omega
  | .alt t u, h, hg, hd => by
    exfalso
    have : ∀ H, Good md ops (some H) t → False := by
      intro H hh
      obtain rfl := deep_zero_nil t _ hh hd.1
      cases hh
    cases h with
    | none => exact this _ hg.1
    | some H => exact this _ hg.1

theorem plan_sound (hsel : ∀ (j : Nat) (o : Oper) cs b, ops[j]? = some o → o.op ≠ .select cs b) (hlt : ∀ (j : Nat) (oj : Oper), ops[j]? = some oj → ∀ e ∈ oj.after, Region.binds md e = true → e.on < ops.size) :
    ∀ (n : Nat) (t : Tree) (listed : Array Bool) (a : Act) (w : World), t.deep n → listed.size = ops.size → t.has (fun j => j < ops.size ∧ listed.getD j true = false) → ClosedL md ops listed → Good md ops none t →
    wpPlan P ops Q t a w → wpAny P md ops Q n listed a w
  | 0, t, listed, a, w, hn, hls, hun, hcl, hg, h => by
    obtain rfl := deep_zero_nil t _ hg hn
    refine ⟨?_, h⟩
    rw [List.eq_nil_iff_forall_not_mem]
    intro j hj
    obtain ⟨h1, o, ho, _⟩ := mem_ready.1 hj
    exact hun j ⟨(Array.getElem?_eq_some_iff.1 ho).1, h1⟩
  | n + 1, t, listed, a, w, hn, hls, hun, hcl, hg, h => by
    have both : ∀ j, j < ops.size → listed.getD j true = listed.getD j false := fun j hj => by
      have : j < listed.size := by omega
      simp [Array.getD, this]
    refine ⟨fun hr => ?_, fun i hi => ?_⟩
    · refine absurd hr (some_ready hlt hls t none hg hun (fun h0 => ?_))
      obtain rfl := deep_zero_nil t _ hg h0
      cases hn
    · obtain ⟨h1, oi, hoi, hdeps⟩ := mem_ready.1 hi
      have hilt : i < ops.size := (Array.getElem?_eq_some_iff.1 hoi).1
      obtain ⟨pre, s, r, hsi, hwp, hbef, hpre, hall, hhas, hgr, hdeep⟩ := find_ready hcl hoi hdeps t _ (fun j hj => by rw [← both j hj.1]; exact hj.2) hun ⟨hilt, h1⟩ hg
      have h' := hwp P Q a w h
      have hway : ∀ x ∈ pre, (∀ ox os, ops[x]? = some ox → ops[i]? = some os → ox.apart ops os = true) ∧ ∀ ps, s = .e i ps → x ∈ ps := by
        intro x hx
        obtain ⟨hSx, hp⟩ := hpre x hx
        rcases hp.way with hw | hw | hw
        · exfalso
          have hl := hw listed oi (by rw [hsi]; exact hoi) hcl hdeps
          have := hSx.2
          rw [both x hSx.1] at this
          rw [show PStep.idx (.q x) = x from rfl, this] at hl
          cases hl
        · rw [hsi] at hw
          exact ⟨hw.2.1, fun ps e => hw.2.2 i ps e⟩
        · obtain ⟨_, hq, _⟩ := hw
          cases hq
      have hrest : wpOp P ops Q i (fun a' w' => wpPlan P ops Q (qs pre r) a' w') a w := by
        cases s with
        | q j =>
          obtain rfl : j = i := hsi
          exact wpOp_of_st (front_q hsel ⟨oi, hoi⟩ pre a w (fun x hx => (hway x hx).1) hbef h')
        | e j ps =>
          obtain rfl : j = i := hsi
          exact wpOp_way (wpOp_mono (fun _ _ hh => hh.2) (front_e hsel ⟨oi, hoi⟩ pre [] a w (fun x hx => (hway x hx).1) (fun x hx => (hway x hx).2 ps rfl) (fun y hy => (by cases hy)) hbef (fun y hy => (by cases hy)) h'))
      refine wpOp_mono (fun a' w' hp => ?_) hrest
      refine plan_sound hsel hlt n (qs pre r) (listed.setIfInBounds i true) a' w' (hdeep n hn) (by simpa using hls) (has_congr _ (fun j => ?_) hhas) (fun j oj hoj hl e he hb => ?_) hgr hp
      · by_cases hij : i = j
        · subst hij
          have hin : i < listed.size := by omega
          simp [Array.getD, hin]
        · rw [getD_set_ne true hij]
          exact ⟨fun h => h.1, fun h => ⟨h, fun e => hij e.symm⟩⟩
      · by_cases hsj : i = j
        · subst hsj
          obtain rfl : oj = oi := Option.some.inj (hoj.symm.trans hoi)
          exact getD_set_true (hdeps e he hb)
        · rw [getD_set_ne false hsj] at hl
          exact getD_set_true (hcl j oj hoj hl e he hb)

theorem wp_region_plan {id : Nat} {a : Act} {w : World} (hm : P.follows .mixedOrders = true) (plan : Tree) (hok : planB .any ops plan = true) (hlt : (ops.toList.all fun o => o.after.toList.all fun e => decide (e.on < ops.size)) = true)
    (h : wpPlan P ops Q plan a w.drew) : (Code.region id ops true).wp P Q a w := by
  unfold planB at hok
  simp only [Bool.and_eq_true] at hok
  obtain ⟨⟨⟨h1, h2⟩, h3⟩, h4⟩ := hok
  obtain ⟨r1, _⟩ := chk_spec plan none [] [] (fun i D hi => by simp at hi) h4
  refine wp_region_any hm ?_
  refine plan_sound (Region.noSelect_spec h1) (fun j oj hj e he _ => ?_) ops.size plan _ a _ (deepB_spec _ _ h2) (by simp) (has_congr _ (fun j => ?_) (hasB_spec _ _ h3)) (fun j oj _ hl => ?_) r1 h
  · have := List.all_eq_true.1 (List.all_eq_true.1 hlt oj (by rw [← Array.mem_def]; exact Array.mem_of_getElem? hj)) e (by simpa using he)
    simpa using this
  · rw [List.mem_range]
    exact ⟨fun h => ⟨h, by simp [Array.getD, h]⟩, fun h => h.1⟩
  · rw [getD_replicate_false] at hl
    cases hl

/-- A quiet step, for the walk. -/
theorem plan_q {i : Nat} {rest : Tree} {a : Act} {w : World} {o : Oper} (ho : ops[i]? = some o)
    (h : ∀ K : Act → Prop, (∀ a', wpPlan P ops Q rest a' w → K a') → if Region.wanted o (yielded ops a.tmps) = true then o.still P a w K else K (a.put o.dst undef)) : wpPlan P ops Q (.q i rest) a w := by
  simp only [wpPlan, stOp, ho]
  exact h _ (fun _ hh => hh)

/-- A step that turns the world, for the walk. -/
theorem plan_e {i : Nat} {ps : List Nat} {rest : Tree} {a : Act} {w : World} {o : Oper} (ho : ops[i]? = some o)
    (h : ∀ K : Act → World → Prop, (∀ a' w', Stab P ops ps a' w' → wpPlan P ops Q rest a' w' → K a' w') → if Region.wanted o (yielded ops a.tmps) = true then o.wp P a w K NoWay else K (a.put o.dst undef) w) : wpPlan P ops Q (.e i ps rest) a w := by
  simp only [wpPlan, wpOp, ho]
  have := h (fun a' w' => Stab P ops ps a' w' ∧ wpPlan P ops Q rest a' w') (fun _ _ h1 h2 => ⟨h1, h2⟩)
  split
  · rename_i hw; rw [if_pos hw] at this; exact .inl this
  · rename_i hw; rw [if_neg hw] at this; exact this

theorem plan_nil {a : Act} {w : World} (h : Q .normal a w) : wpPlan P ops Q .nil a w := h
theorem plan_alt {t u : Tree} {a : Act} {w : World} (h1 : wpPlan P ops Q t a w) (h2 : wpPlan P ops Q u a w) : wpPlan P ops Q (.alt t u) a w := ⟨h1, h2⟩
theorem stab_nil {a : Act} {w : World} : Stab P ops [] a w := trivial
/-- A quiet step, made once more: for the walk. -/
theorem stab_cons {y : Nat} {ys : List Nat} {a : Act} {w : World} {o : Oper} (ho : ops[y]? = some o)
    (h : if Region.wanted o (yielded ops a.tmps) = true then o.still P a w (fun a' => a' = a) else a.put o.dst undef = a) (hs : Stab P ops ys a w) : Stab P ops (y :: ys) a w := by
  refine ⟨?_, hs⟩
  simp only [stOp, ho]
  exact h
end
end Go.Proofs.YtfoeckaeongahaaDoor
