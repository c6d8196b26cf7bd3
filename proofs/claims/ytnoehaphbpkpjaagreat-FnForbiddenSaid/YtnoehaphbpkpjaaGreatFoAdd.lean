/- Contracts and lemmas for the statements of this seat, written for this claim; each theorem states its own conditions. -/
import Derived.Test.YtnoehaphbpkpjaaGreatProg
import Derived.WalkKit
import Derived.StillTail
import Derived.KernelRfl
import Derived.OrdersHeld
import Derived.WalkSpells
import Derived.WalkLawsBesides
import Derived.Lib.Hide
import Derived.Outline
import Derived.StillTailTactics
import Derived.IntWalk
import Derived.Laws.AppendOwn
import Derived.OwnWalk
set_option linter.unusedVariables false
set_option linter.unusedSimpArgs false
namespace Go.Proofs.YtnoehaphbpkpjaaGreat
open Go.RowKit
section
variable {P : Program} {ops : Array Oper} {md : Region.Mode} {C : World → Prop}
/-- what an operation comes to, in any world of the class C: one value, and a world of the class -/
def addUpon (P : Program) (C : World → Prop) (v : Value) (w : World) : Result Next → Prop
  | .ok (.value u) w' => u = v ∧ C w'
  | .ok .skip w' => v = undef ∧ C w'
  | .ok (.enter f args) w' => w' = w ∧ Calls P f args w (fun e w'' => e = .returned v ∧ C w'')
  | _ => False
def YA (P : Program) (ops : Array Oper) (C : World → Prop) (o : Oper) (v : Value) (a : Act) : Prop :=
  (Region.wanted o (yielded ops a.tmps) = true ∧ ∀ w, C w → addUpon P C v w ((execOp a.eval o).run P w)) ∨
  (Region.wanted o (yielded ops a.tmps) = false ∧ v = undef)
def addList (P : Program) (ops : Array Oper) (C : World → Prop) (K : Act → Prop) : List Oper → Act → Prop
  | [], a => K a
  | o :: r, a => ∃ v, YA P ops C o v a ∧ addList P ops C K r (a.put o.dst v)
theorem add_nil {K : Act → Prop} {a : Act} (h : K a) : addList P ops C K [] a := h
theorem add_do {K : Act → Prop} {o : Oper} {r : List Oper} {a : Act} {v : Value} (hw : Region.wanted o (yielded ops a.tmps) = true) (h : ∀ w, C w → addUpon P C v w ((execOp a.eval o).run P w))
    (k : ∀ K' : Act → Prop, (∀ a, addList P ops C K r a → K' a) → K' (a.put o.dst v)) : addList P ops C K (o :: r) a := ⟨v, .inl ⟨hw, h⟩, k _ fun _ h => h⟩
theorem add_skip {K : Act → Prop} {o : Oper} {r : List Oper} {a : Act} (hw : Region.wanted o (yielded ops a.tmps) = false)
    (k : ∀ K' : Act → Prop, (∀ a, addList P ops C K r a → K' a) → K' (a.put o.dst undef)) : addList P ops C K (o :: r) a := ⟨undef, .inr ⟨hw, rfl⟩, k _ fun _ h => h⟩
theorem addUpon_value (u v : Value) (w w' : World) : addUpon P C v w (.ok (.value u) w') = (u = v ∧ C w') := rfl
theorem addUpon_skip (v : Value) (w w' : World) : addUpon P C v w (.ok .skip w') = (v = undef ∧ C w') := rfl
theorem addUpon_enter (v : Value) (w : World) (f : FuncId) (args : Array Value) (w' : World) : addUpon P C v w (.ok (.enter f args) w') = (w' = w ∧ Calls P f args w (fun e w'' => e = .returned v ∧ C w'')) := rfl
theorem YA.same {o : Oper} {v : Value} {a a' : Act} (hy : YA P ops C o v a) (he : execOp a'.eval o = execOp a.eval o)
    (hw : Region.wanted o (yielded ops a'.tmps) = Region.wanted o (yielded ops a.tmps)) : YA P ops C o v a' := by
  unfold YA at *; rw [he, hw]; exact hy
theorem YA.wpOp {i : Nat} {o : Oper} {v : Value} {a : Act} {w : World} {K : Act → World → Prop} {Q : Exit → Act → World → Prop} (hi : ops[i]? = some o) (hy : YA P ops C o v a) (hw : C w)
    (hK : ∀ w', C w' → K (a.put o.dst v) w') : wpOp P ops Q i K a w := by
  unfold Go.wpOp
  simp only [hi]
  rcases hy with ⟨hwa, h⟩ | ⟨hwa, rfl⟩
  · rw [if_pos hwa]
    left
    have h' := h w hw
    unfold Oper.wp
    generalize (execOp a.eval o).run P w = r at h' ⊢
    cases r with
    | ok n w' =>
      cases n <;> simp only [addUpon] at h'
      case value u => obtain ⟨rfl, hc⟩ := h'; exact hK _ hc
      case skip => obtain ⟨rfl, hc⟩ := h'; exact hK _ hc
      case enter f args =>
        obtain ⟨rfl, hc⟩ := h'
        exact hc.mono fun e w'' ⟨he, hc'⟩ => by subst he; exact hK _ hc'
    | halt x w' => simp only [addUpon] at h'
  · rw [if_neg (by simp [hwa])]
    exact hK _ hw
def anyA (P : Program) (md : Region.Mode) (ops : Array Oper) (C : World → Prop) (n : Nat) (L : Array Bool → Act → Prop) : Nat → Array Bool → Act → Prop
  | 0, listed, a => L listed a
  | f + 1, listed, a => Region.ready md ops listed ≠ [] ∧ ∀ i ∈ Region.ready md ops listed, i < n ∧
      ∃ o v, ops[i]? = some o ∧ YA P ops C o v a ∧ anyA P md ops C n L f (listed.setIfInBounds i true) (a.put o.dst v)
theorem wpAny_of_anyA {n g : Nat} {L : Array Bool → Act → Prop} {Q : Exit → Act → World → Prop} (hL : ∀ listed a w, C w → L listed a → wpAny P md ops Q g listed a w) :
    ∀ (f : Nat) (listed : Array Bool) (a : Act) (w : World), C w → anyA P md ops C n L f listed a → wpAny P md ops Q (f + g) listed a w
  | 0, listed, a, w, hw, h => by rw [Nat.zero_add]; exact hL _ _ _ hw h
  | f + 1, listed, a, w, hw, h => by
    rw [show f + 1 + g = (f + g) + 1 by omega]
    refine ⟨fun h0 => absurd h0 h.1, fun i hi => ?_⟩
    obtain ⟨_, o, v, ho, hy, hk⟩ := h.2 i hi
    exact hy.wpOp ho hw fun w' hw' => wpAny_of_anyA hL f _ _ w' hw' hk
theorem anyA_first {n i : Nat} {oi : Oper} {v : Value} {L : Array Bool → Act → Prop} {Inv : Array Bool → Prop} (hi : ops[i]? = some oi)
    (hsel : ∀ (j : Nat) (o : Oper) cs b, ops[j]? = some o → o.op ≠ .select cs b)
    (hset : ∀ listed j, Inv listed → j ∈ Region.ready md ops listed → j < n → Inv (listed.setIfInBounds j true))
    (hlt : ∀ listed, Inv listed → listed.getD i true = false → ∀ j ∈ Region.ready md ops listed, j < n)
    (hdone : ∀ listed a, L listed a → ∀ j ∈ Region.ready md ops listed, n ≤ j) :
    ∀ (f : Nat) (listed : Array Bool) (a : Act), Inv listed →
      (∀ j oj, ops[j]? = some oj → j ≠ i → listed.getD j true = false → (∀ e ∈ oj.after, Region.binds md e = true → e.on ≠ i) → oi.apart ops oj = true) →
      i ∈ Region.ready md ops listed → i < n → YA P ops C oi v a →
      anyA P md ops C n L f (listed.setIfInBounds i true) (a.put oi.dst v) → anyA P md ops C n L (f + 1) listed a := by
  intro f
  induction f with
  | zero =>
    intro listed a inv _ hr hin hy H
    refine ⟨fun h => (by rw [h] at hr; cases hr), fun j hj => ?_⟩
    have hjn := hlt listed inv (mem_ready.1 hr).1 j hj
    by_cases hji : j = i
    · subst hji; exact ⟨hjn, oi, v, hi, hy, H⟩
    · have := hdone _ _ H j (ready_mono hj hji)
      omega
  | succ f ih =>
    intro listed a inv hfree hr hin hy H
    refine ⟨fun h => (by rw [h] at hr; cases hr), fun j hj => ?_⟩
    have hjn := hlt listed inv (mem_ready.1 hr).1 j hj
    by_cases hji : j = i
    · subst hji; exact ⟨hjn, oi, v, hi, hy, H⟩
    · obtain ⟨_, oj, u, hoj, hyj, hk⟩ := H.2 j (ready_mono hj hji)
      obtain ⟨hjun, oj', hoj', hall⟩ := mem_ready.1 hj
      obtain rfl : oj' = oj := Option.some.inj (hoj'.symm.trans hoj)
      have hnot : ∀ e ∈ oj'.after, Region.binds md e = true → e.on ≠ i := fun e he hb heq => by
        have h1 := hall e he hb
        have h0 := (mem_ready.1 hr).1
        rw [heq] at h1
        rcases Nat.lt_or_ge i listed.size with h' | h'
        · simp [h'] at h0 h1; rw [h0] at h1; cases h1
        · simp [Array.getElem?_eq_none h'] at h1
      obtain ⟨a1, a2, a3⟩ := Oper.apart_spec (hfree j oj' hoj hji hjun hnot)
      have hyj' : YA P ops C oj' u a := hyj.same (execOp_put oj' (fun cs b => hsel j oj' cs b hoj) a oi.dst v a1).symm (wanted_put oj' a oi.dst v a1).symm
      have hyi' : YA P ops C oi v (a.put oj'.dst u) := hy.same (execOp_put oi (fun cs b => hsel i oi cs b hi) a oj'.dst u a3) (wanted_put oi a oj'.dst u a3)
      refine ⟨hjn, oj', u, hoj, hyj', ?_⟩
      refine ih (listed.setIfInBounds j true) (a.put oj'.dst u) (hset _ j inv hj hjn) (fun k ok hk hki hun hno => ?_) (ready_mono hr (Ne.symm hji)) hin hyi' ?_
      · refine hfree k ok hk hki ?_ hno
        by_cases hjk : j = k
        · subst hjk; exact hjun
        · rw [getD_set_ne true hjk] at hun; exact hun
      · rw [Array.setIfInBounds_comm _ _ hji, ← Act.put_comm a v u a2]
        exact hk
theorem anyA_lex {Q : Act → Prop} (hs : Region.noSelect ops = true) : ∀ (l : List Oper) (k : Nat) (listed : Array Bool) (a : Act), (∀ j, l[j]? = ops[k + j]?) →
    Region.lexFrom md ops l.length k listed = true → addList P ops C Q l a → anyA P md ops C ops.size (fun listed a => Region.ready md ops listed = [] ∧ Q a) l.length listed a
  | [], _, _, _, _, hB, h => ⟨by simpa [Region.lexFrom] using hB, h⟩
  | o :: l, k, listed, a, hl, hB, h => by
    have h0 : ops[k]? = some o := by simpa using (hl 0).symm
    simp only [List.length_cons, Region.lexFrom, Bool.and_eq_true] at hB
    obtain ⟨⟨hr, hf⟩, hB'⟩ := hB
    obtain ⟨v, hy, hK⟩ := h
    have hsz : ∀ {j : Nat} {listed : Array Bool}, j ∈ Region.ready md ops listed → j < ops.size := fun hj => by
      obtain ⟨_, oj, hoj, _⟩ := mem_ready.1 hj
      exact (Array.getElem?_eq_some_iff.1 hoj).1
    exact anyA_first (Inv := fun _ => True) h0 (Region.noSelect_spec hs) (fun _ _ _ _ _ => trivial) (fun _ _ _ j hj => hsz hj)
      (fun listed a hL j hj => by rw [hL.1] at hj; cases hj) l.length listed a trivial (Region.free_spec h0 hf) (by simpa using hr) (hsz (by simpa using hr)) hy
      (anyA_lex hs l (k + 1) _ _ (fun j => by have := hl (j + 1); simpa [Nat.add_assoc, Nat.add_comm 1 j] using this) hB' hK)
/-- A region that draws its order, whose operations each come to one value in every world of a class. -/
theorem wp_region_add {id : Nat} {Q : Exit → Act → World → Prop} {a : Act} {w : World} {l : List Oper} (C : World → Prop) (hm : P.follows .mixedOrders = true) (hB : Region.lexB .any l.toArray = true)
    (hw : C { w with drawn := w.drawn + 1 }) (h : addList P l.toArray C (fun a' => ∀ w', C w' → Q .normal a' w') l a) : (Code.region id l.toArray true).wp P Q a w := by
  simp only [Region.lexB, Bool.and_eq_true] at hB
  refine wp_region_any hm ?_
  have H := anyA_lex (md := .any) hB.1 l 0 (Array.replicate l.toArray.size false) a (by simp) (by simpa using hB.2) h
  have := wpAny_of_anyA (md := .any) (Q := Q) (g := 0) (fun listed a' w' hw' hL => ⟨hL.1, hL.2 w' hw'⟩) l.length _ _ _ hw H
  simpa using this
theorem anyA_lexT {n g : Nat} {Lq : Act → Prop} (hsel : Region.noSelect ops = true) (hs : Region.sinkB md ops n = true) (hc : Region.chainB md ops n = true) (hn : n < ops.size) :
    ∀ (l : List Oper) (k : Nat) (listed : Array Bool) (a : Act), (∀ j, j < l.length → l[j]? = ops[k + j]?) → k + l.length = n → HeadInv md ops n listed →
    Region.lexHead md ops g l.length k listed = true → addList P ops C Lq l a →
    anyA P md ops C n (fun listed' a' => Region.seqB md ops g n listed' = true ∧ Lq a') l.length listed a
  | [], k, listed, a, _, hk, _, hB, h => by
    have : k = n := by simpa using hk
    subst this
    exact ⟨by simpa [Region.lexHead] using hB, h⟩
  | o :: l, k, listed, a, hl, hk, inv, hB, h => by
    have h0 : ops[k]? = some o := by simpa using (hl 0 (by simp)).symm
    simp only [List.length_cons, Region.lexHead, Bool.and_eq_true] at hB
    obtain ⟨⟨hr, hf⟩, hB'⟩ := hB
    have hkn : k < n := by simp only [List.length_cons] at hk; omega
    have hr' : k ∈ Region.ready md ops listed := by simpa using hr
    obtain ⟨v, hy, hK⟩ := h
    exact anyA_first (Inv := HeadInv md ops n) h0 (Region.noSelect_spec hsel) (fun listed j inv hj hjn => inv.set hj hjn)
      (fun listed inv hun j hj => by
        rcases Nat.lt_or_ge j n with h | h
        · exact h
        · exact absurd hj (tail_waits hs hc hn inv _ k rfl hkn hun j h))
      (fun listed' a' hL => seqB_ready hL.1) l.length listed a inv (Region.free_spec h0 hf) hr' hkn hy
      (anyA_lexT hsel hs hc hn l (k + 1) _ _ (fun j hj => by have := hl (j + 1) (by simp; omega); simpa [Nat.add_assoc, Nat.add_comm 1 j] using this) (by simp only [List.length_cons] at hk; omega) (inv.set hr' hkn) hB' hK)
/-- As wp_region_add for the first n operations; the others come behind them, in order. -/
theorem wp_region_add_tail {id : Nat} {Q : Exit → Act → World → Prop} {a : Act} {w : World} {l : List Oper} (n : Nat) (C : World → Prop) (hm : P.follows .mixedOrders = true) (hB : Region.lexTailB .any l.toArray n = true)
    (hw : C { w with drawn := w.drawn + 1 }) (h : addList P l.toArray C (fun a' => ∀ w', C w' → wpList P l.toArray Q (l.drop n) a' w') (l.take n) a) : (Code.region id l.toArray true).wp P Q a w := by
  simp only [Region.lexTailB, Bool.and_eq_true, decide_eq_true_eq] at hB
  obtain ⟨⟨⟨⟨hsel, hn⟩, hs⟩, hc⟩, hlex⟩ := hB
  have hn' : n < l.length := by simpa using hn
  have htl : (l.take n).length = n := by simp; omega
  have hdl : (l.drop n).length = l.toArray.size - n := by simp
  have inv0 : HeadInv .any l.toArray n (Array.replicate l.toArray.size false) :=
    ⟨by simp, fun j oj _ hl => (by rw [getD_replicate_false] at hl; cases hl), fun t _ ht => getD_in (by simpa using ht) (getD_replicate_false _ _)⟩
  have H := anyA_lexT (md := .any) (C := C) (g := l.toArray.size - n) hsel hs hc hn (l.take n) 0 _ a (fun j hj => by
    have hj' : j < n := by rw [htl] at hj; exact hj
    simp [hj']) (by simpa using htl) inv0 (by rw [htl]; exact hlex) h
  refine wp_region_any hm ?_
  have := wpAny_of_anyA (md := .any) (Q := Q) (g := l.toArray.size - n) (fun listed a' w' hw' hL => by
    have := wpAny_of_seq (md := .any) (Q' := Q) (l.drop n) n listed a' w' (fun j => by simp [List.getElem?_drop]) (by rw [hdl]; exact hL.1) (hL.2 w' hw')
    rwa [hdl] at this) _ _ _ _ hw H
  rw [htl, show n + (l.toArray.size - n) = l.toArray.size by omega] at this
  exact this
end
section
variable {P : Program} {ops : Array Oper} {md : Region.Mode} {S : World → Prop} {Q : Exit → Act → World → Prop}
/-- a plan (numbers of operations; true: it reads alone and may be taken first; false: it is then the only one that may come up) fits a region -/
def mixB (md : Region.Mode) (ops : Array Oper) : List (Nat × Bool) → Array Bool → Bool
  | [], listed => (Region.ready md ops listed).isEmpty
  | (i, true) :: r, listed => (Region.ready md ops listed).contains i && Region.free md ops listed i && mixB md ops r (listed.setIfInBounds i true)
  | (i, false) :: r, listed => (Region.ready md ops listed == [i]) && mixB md ops r (listed.setIfInBounds i true)
def mixList (P : Program) (ops : Array Oper) (S : World → Prop) (Q : Exit → Act → World → Prop) : List (Nat × Bool) → Act → World → Prop
  | [], a, w => Q .normal a w
  | (i, true) :: r, a, w => ∃ o v, ops[i]? = some o ∧ YieldsIf P ops S o v a ∧ mixList P ops S Q r (a.put o.dst v) w
  | (i, false) :: r, a, w => ∃ o, ops[i]? = some o ∧ Region.wanted o (yielded ops a.tmps) = true ∧ o.wp P a w (fun a' w' => S w' ∧ mixList P ops S Q r a' w') Q
theorem mix_nil {a : Act} {w : World} (h : Q .normal a w) : mixList P ops S Q [] a w := h
theorem mix_do {i : Nat} {o : Oper} {r : List (Nat × Bool)} {a : Act} {w : World} {v : Value} (hi : ops[i]? = some o) (hw : Region.wanted o (yielded ops a.tmps) = true)
    (h : ∀ w, S w → (execOp a.eval o).run P w = .ok (.value v) w) (k : ∀ K' : Act → Prop, (∀ a, mixList P ops S Q r a w → K' a) → K' (a.put o.dst v)) : mixList P ops S Q ((i, true) :: r) a w :=
  ⟨o, v, hi, .inl ⟨hw, h⟩, k _ fun _ h => h⟩
theorem mix_skip {i : Nat} {o : Oper} {r : List (Nat × Bool)} {a : Act} {w : World} (hi : ops[i]? = some o) (hw : Region.wanted o (yielded ops a.tmps) = false)
    (k : ∀ K' : Act → Prop, (∀ a, mixList P ops S Q r a w → K' a) → K' (a.put o.dst undef)) : mixList P ops S Q ((i, true) :: r) a w :=
  ⟨o, undef, hi, .inr ⟨hw, rfl⟩, k _ fun _ h => h⟩
theorem mix_call {i : Nat} {o : Oper} {r : List (Nat × Bool)} {a : Act} {w : World} (hi : ops[i]? = some o) (hw : Region.wanted o (yielded ops a.tmps) = true)
    (h : ∀ K' : Act → World → Prop, (∀ a w, S w → mixList P ops S Q r a w → K' a w) → o.wp P a w K' Q) : mixList P ops S Q ((i, false) :: r) a w :=
  ⟨o, hi, hw, h _ fun _ _ hs hk => ⟨hs, hk⟩⟩
theorem wpAnyH_of_mix (hs : Region.noSelect ops = true) (hQ : ∀ c (a : Act) (d : Option Tmp) v w, Q (.panic c) (a.put d v) w → Q (.panic c) a w) :
    ∀ (plan : List (Nat × Bool)) (listed : Array Bool) (a : Act) (w : World), S w → mixB md ops plan listed = true → mixList P ops S Q plan a w → wpAnyH P md ops Q S plan.length listed a w
  | [], listed, a, w, _, hB, h => ⟨by simpa [mixB] using hB, h⟩
  | (i, true) :: r, listed, a, w, hS, hB, h => by
    simp only [mixB, Bool.and_eq_true] at hB
    obtain ⟨o, v, hi, hy, hk⟩ := h
    exact wpAnyH_take hi hs hB.1.2 hB.1.1 (fun c a w => hQ c a o.dst v w) hy hS (wpAnyH_of_mix hs hQ r _ _ w hS hB.2 hk)
  | (i, false) :: r, listed, a, w, hS, hB, h => by
    simp only [mixB, Bool.and_eq_true, beq_iff_eq] at hB
    obtain ⟨o, hi, hw, hk⟩ := h
    refine wpAnyH_all hB.1 (by simp) (fun j hj => ?_)
    obtain rfl : j = i := by simpa using hj
    unfold wpOp
    simp only [hi]
    rw [if_pos hw]
    exact .inl (Oper.wp_mono (fun a' w' hh => ⟨hh.1, wpAnyH_of_mix hs hQ r _ a' w' hh.1 hB.2 hh.2⟩) hk)
/-- A region that draws its order: reading operations are taken first, the others come up alone, by a plan that the kernel checks. -/
theorem wp_region_mix {id : Nat} {a : Act} {w : World} {l : List Oper} (plan : List (Nat × Bool)) (S : World → Prop) (hm : P.follows .mixedOrders = true)
    (hB : (Region.noSelect l.toArray && decide (plan.length = l.toArray.size) && mixB .any l.toArray plan (Array.replicate l.toArray.size false)) = true)
    (hQ : ∀ c (a : Act) (d : Option Tmp) v w, Q (.panic c) (a.put d v) w → Q (.panic c) a w)
    (hS : S { w with drawn := w.drawn + 1 }) (h : mixList P l.toArray S Q plan a { w with drawn := w.drawn + 1 }) : (Code.region id l.toArray true).wp P Q a w := by
  simp only [Bool.and_eq_true, decide_eq_true_eq] at hB
  refine wp_region_held (S := S) hm ?_
  have := wpAnyH_of_mix (md := .any) hB.1.1 hQ plan _ a _ hS hB.2 h
  rwa [hB.1.2] at this
end
/-- a plan for a region whose order is drawn: operations that only read are taken first; where others may come up, each of them is tried -/
inductive Plan where
  | done
  | det (i : Nat) (p : Plan)
  | one (i : Nat) (p : Plan)
  | two (i : Nat) (p : Plan) (j : Nat) (q : Plan)
  | three (i : Nat) (p : Plan) (j : Nat) (q : Plan) (k : Nat) (r : Plan)
def Plan.depth : Plan → Nat
  | .done => 0
  | .det _ p => p.depth + 1
  | .one _ p => p.depth + 1
  | .two _ p _ q => max p.depth q.depth + 1
  | .three _ p _ q _ r => max p.depth (max q.depth r.depth) + 1
def Plan.okB (md : Region.Mode) (ops : Array Oper) : Plan → Array Bool → Bool
  | .done, listed => (Region.ready md ops listed).isEmpty
  | .det i p, listed => (Region.ready md ops listed).contains i && Region.free md ops listed i && p.okB md ops (listed.setIfInBounds i true)
  | .one i p, listed => (Region.ready md ops listed == [i]) && p.okB md ops (listed.setIfInBounds i true)
  | .two i p j q, listed => (Region.ready md ops listed == [i, j]) && p.okB md ops (listed.setIfInBounds i true) && q.okB md ops (listed.setIfInBounds j true)
  | .three i p j q k r, listed => (Region.ready md ops listed == [i, j, k]) && p.okB md ops (listed.setIfInBounds i true) && q.okB md ops (listed.setIfInBounds j true) && r.okB md ops (listed.setIfInBounds k true)
section
variable {P : Program} {ops : Array Oper} {md : Region.Mode} {S : World → Prop} {K : Act → World → Prop} {Q : Exit → Act → World → Prop}
/-- operation i comes up, and K holds behind it -/
def stepOp (P : Program) (ops : Array Oper) (Q : Exit → Act → World → Prop) (i : Nat) (K : Act → World → Prop) (a : Act) (w : World) : Prop :=
  ∃ o, ops[i]? = some o ∧ Region.wanted o (yielded ops a.tmps) = true ∧ o.wp P a w K Q
def Plan.sem (P : Program) (ops : Array Oper) (S : World → Prop) (K : Act → World → Prop) (Q : Exit → Act → World → Prop) : Plan → Act → World → Prop
  | .done, a, w => K a w
  | .det i p, a, w => ∃ o v, ops[i]? = some o ∧ YieldsIf P ops S o v a ∧ p.sem P ops S K Q (a.put o.dst v) w
  | .one i p, a, w => stepOp P ops Q i (fun a' w' => S w' ∧ p.sem P ops S K Q a' w') a w
  | .two i p j q, a, w => stepOp P ops Q i (fun a' w' => S w' ∧ p.sem P ops S K Q a' w') a w ∧ stepOp P ops Q j (fun a' w' => S w' ∧ q.sem P ops S K Q a' w') a w
  | .three i p j q k r, a, w => stepOp P ops Q i (fun a' w' => S w' ∧ p.sem P ops S K Q a' w') a w ∧ stepOp P ops Q j (fun a' w' => S w' ∧ q.sem P ops S K Q a' w') a w ∧ stepOp P ops Q k (fun a' w' => S w' ∧ r.sem P ops S K Q a' w') a w
theorem plan_done {a : Act} {w : World} (h : K a w) : Plan.done.sem P ops S K Q a w := h
theorem plan_do {i : Nat} {o : Oper} {p : Plan} {a : Act} {w : World} {v : Value} (hi : ops[i]? = some o) (hw : Region.wanted o (yielded ops a.tmps) = true)
    (h : ∀ w, S w → (execOp a.eval o).run P w = .ok (.value v) w) (k : ∀ K' : Act → Prop, (∀ a, p.sem P ops S K Q a w → K' a) → K' (a.put o.dst v)) : (Plan.det i p).sem P ops S K Q a w :=
  ⟨o, v, hi, .inl ⟨hw, h⟩, k _ fun _ h => h⟩
theorem plan_skip {i : Nat} {o : Oper} {p : Plan} {a : Act} {w : World} (hi : ops[i]? = some o) (hw : Region.wanted o (yielded ops a.tmps) = false)
    (k : ∀ K' : Act → Prop, (∀ a, p.sem P ops S K Q a w → K' a) → K' (a.put o.dst undef)) : (Plan.det i p).sem P ops S K Q a w :=
  ⟨o, undef, hi, .inr ⟨hw, rfl⟩, k _ fun _ h => h⟩
theorem plan_one {i : Nat} {p : Plan} {a : Act} {w : World} (h : stepOp P ops Q i (fun a' w' => S w' ∧ p.sem P ops S K Q a' w') a w) : (Plan.one i p).sem P ops S K Q a w := h
theorem plan_two {i j : Nat} {p q : Plan} {a : Act} {w : World} (h : stepOp P ops Q i (fun a' w' => S w' ∧ p.sem P ops S K Q a' w') a w) (h' : stepOp P ops Q j (fun a' w' => S w' ∧ q.sem P ops S K Q a' w') a w) : (Plan.two i p j q).sem P ops S K Q a w := ⟨h, h'⟩
theorem plan_three {i j k : Nat} {p q r : Plan} {a : Act} {w : World} (h : stepOp P ops Q i (fun a' w' => S w' ∧ p.sem P ops S K Q a' w') a w) (h' : stepOp P ops Q j (fun a' w' => S w' ∧ q.sem P ops S K Q a' w') a w)
    (h'' : stepOp P ops Q k (fun a' w' => S w' ∧ r.sem P ops S K Q a' w') a w) : (Plan.three i p j q k r).sem P ops S K Q a w := ⟨h, h', h''⟩
theorem step_op {i : Nat} {o : Oper} {p : Plan} {a : Act} {w : World} (hi : ops[i]? = some o) (hw : Region.wanted o (yielded ops a.tmps) = true)
    (h : ∀ K' : Act → World → Prop, (∀ a w, S w → p.sem P ops S K Q a w → K' a w) → o.wp P a w K' Q) : stepOp P ops Q i (fun a' w' => S w' ∧ p.sem P ops S K Q a' w') a w :=
  ⟨o, hi, hw, h _ fun _ _ hs hk => ⟨hs, hk⟩⟩
theorem stepOp.op {i : Nat} {K' : Act → World → Prop} {a : Act} {w : World} (h : stepOp P ops Q i K' a w) : wpOp P ops Q i K' a w := by
  obtain ⟨o, hi, hw, hk⟩ := h
  unfold wpOp
  simp only [hi]
  rw [if_pos hw]
  exact .inl hk
theorem stepOp.mono {i : Nat} {K1 K2 : Act → World → Prop} {a : Act} {w : World} (h : stepOp P ops Q i K1 a w) (hk : ∀ a w, K1 a w → K2 a w) : stepOp P ops Q i K2 a w := by
  obtain ⟨o, hi, hw, h'⟩ := h
  exact ⟨o, hi, hw, Oper.wp_mono (fun a w => hk a w) h'⟩
theorem Plan.spec (hs : Region.noSelect ops = true) (hQ : ∀ c (a : Act) (d : Option Tmp) v w, Q (.panic c) (a.put d v) w → Q (.panic c) a w) (hK : ∀ a w, S w → K a w → Q .normal a w) :
    ∀ (p : Plan) (fuel : Nat) (listed : Array Bool) (a : Act) (w : World), S w → p.okB md ops listed = true → p.sem P ops S K Q a w → p.depth ≤ fuel → wpAnyH P md ops Q S fuel listed a w
  | .done, fuel, listed, a, w, hS, hB, h, _ => wpAnyH_done (by simpa [Plan.okB] using hB) (hK a w hS h) fuel
  | .det i p, fuel, listed, a, w, hS, hB, h, hd => by
    simp only [Plan.okB, Bool.and_eq_true] at hB
    obtain ⟨o, v, hi, hy, hk⟩ := h
    simp only [Plan.depth] at hd
    obtain ⟨f, rfl⟩ : ∃ f, fuel = f + 1 := ⟨fuel - 1, by omega⟩
    exact wpAnyH_take hi hs hB.1.2 hB.1.1 (fun c a w => hQ c a o.dst v w) hy hS (Plan.spec hs hQ hK p f _ _ w hS hB.2 hk (by omega))
  | .one i p, fuel, listed, a, w, hS, hB, h, hd => by
    simp only [Plan.okB, Bool.and_eq_true, beq_iff_eq] at hB
    simp only [Plan.depth] at hd
    obtain ⟨f, rfl⟩ : ∃ f, fuel = f + 1 := ⟨fuel - 1, by omega⟩
    refine wpAnyH_all hB.1 (by simp) (fun j hj => ?_)
    obtain rfl : j = i := by simpa using hj
    exact (stepOp.mono h fun a' w' hh => ⟨hh.1, Plan.spec hs hQ hK p f _ a' w' hh.1 hB.2 hh.2 (by omega)⟩).op
  | .two i p j q, fuel, listed, a, w, hS, hB, h, hd => by
    simp only [Plan.okB, Bool.and_eq_true, beq_iff_eq] at hB
    simp only [Plan.depth] at hd
    obtain ⟨f, rfl⟩ : ∃ f, fuel = f + 1 := ⟨fuel - 1, by omega⟩
    refine wpAnyH_all hB.1.1 (by simp) (fun m hm => ?_)
    rcases (by simpa using hm : m = i ∨ m = j) with rfl | rfl
    · exact (stepOp.mono h.1 fun a' w' hh => ⟨hh.1, Plan.spec hs hQ hK p f _ a' w' hh.1 hB.1.2 hh.2 (by omega)⟩).op
    · exact (stepOp.mono h.2 fun a' w' hh => ⟨hh.1, Plan.spec hs hQ hK q f _ a' w' hh.1 hB.2 hh.2 (by omega)⟩).op
  | .three i p j q k r, fuel, listed, a, w, hS, hB, h, hd => by
    simp only [Plan.okB, Bool.and_eq_true, beq_iff_eq] at hB
    simp only [Plan.depth] at hd
    obtain ⟨f, rfl⟩ : ∃ f, fuel = f + 1 := ⟨fuel - 1, by omega⟩
    refine wpAnyH_all hB.1.1.1 (by simp) (fun m hm => ?_)
    rcases (by simpa using hm : m = i ∨ m = j ∨ m = k) with rfl | rfl | rfl
    · exact (stepOp.mono h.1 fun a' w' hh => ⟨hh.1, Plan.spec hs hQ hK p f _ a' w' hh.1 hB.1.1.2 hh.2 (by omega)⟩).op
    · exact (stepOp.mono h.2.1 fun a' w' hh => ⟨hh.1, Plan.spec hs hQ hK q f _ a' w' hh.1 hB.1.2 hh.2 (by omega)⟩).op
    · exact (stepOp.mono h.2.2 fun a' w' hh => ⟨hh.1, Plan.spec hs hQ hK r f _ a' w' hh.1 hB.2 hh.2 (by omega)⟩).op
/-- A region that draws its order, walked along a plan that the kernel checks; K says what is known behind it, whatever the order was. -/
theorem wp_region_plan {id : Nat} {a : Act} {w : World} {l : List Oper} (plan : Plan) (S : World → Prop) (K : Act → Act → World → Prop) (hm : P.follows .mixedOrders = true)
    (hB : (Region.noSelect l.toArray && decide (plan.depth ≤ l.toArray.size) && plan.okB .any l.toArray (Array.replicate l.toArray.size false)) = true)
    (hQ : ∀ c (a : Act) (d : Option Tmp) v w, Q (.panic c) (a.put d v) w → Q (.panic c) a w)
    (hS : S { w with drawn := w.drawn + 1 }) (h : plan.sem P l.toArray S (K a) Q a { w with drawn := w.drawn + 1 }) (hK : ∀ a' w', S w' → K a a' w' → Q .normal a' w') : (Code.region id l.toArray true).wp P Q a w := by
  simp only [Bool.and_eq_true, decide_eq_true_eq] at hB
  exact wp_region_held (S := S) hm (Plan.spec (md := .any) hB.1.1 hQ hK plan _ _ a _ hS hB.2 h hB.1.2)
end

end Go.Proofs.YtnoehaphbpkpjaaGreat
namespace Go.Proofs.YtnoehaphbpkpjaaGreat
open Go.RowKit
theorem ret_int {k : IntKind} {a b : Int} (h : a = b) : Ending.returned (.int k a) = .returned (.int k b) := by rw [h]
theorem ret_bool {a b : Bool} (h : a = b) : Ending.returned (.bool a) = .returned (.bool b) := by rw [h]
theorem bcell {W w1 : World} (hb : Below W.heap.size W w1) : (∀ b o, b < W.heap.size → w1.cell? ⟨b, o, none⟩ = W.cell? ⟨b, o, none⟩) ∧ (∀ b o, b < W.heap.size → w1.frozen? ⟨b, o, none⟩ = W.frozen? ⟨b, o, none⟩) :=
  ⟨fun b o h => hb.cell (p := ⟨b, o, none⟩) h, fun b o h => hb.frozen (p := ⟨b, o, none⟩) h⟩
theorem below_al {w Y : World} {o : Obj} (h : Below w.heap.size w Y) : Below w.heap.size w (Y.alloc o) := h.alloc h.size o
theorem below_dr {w Y : World} (h : Below w.heap.size w Y) : Below w.heap.size w Y.drew := h.drew
theorem below_drN {w Y : World} {n : Nat} (h : Below w.heap.size w Y) : Below w.heap.size w (Y.drewN n) := ⟨h.os, h.tape, h.output, h.size, h.block⟩
theorem below_set {w Y : World} {p : Addr} {v : Value} (h : Below w.heap.size w Y) (hp : w.heap.size ≤ p.block) : Below w.heap.size w (Y.setCell p v) := h.setCell hp v
theorem below_tr {w Y w1 : World} (hb : Below Y.heap.size Y w1) (h : Below w.heap.size w Y) : Below w.heap.size w w1 := h.trans (hb.mono h.size)
theorem addCall {P : Program} {f : FuncId} {args : Array Value} {W w : World} {v : Value} (h : Calls P f args w (fun e w' => e = .returned v ∧ Below w.heap.size w w')) (hb : Below W.heap.size W w) :
    w = w ∧ Calls P f args w (fun e w' => e = .returned v ∧ Below W.heap.size W w') := ⟨rfl, h.mono fun _ _ ⟨he, hb2⟩ => ⟨he, hb.trans (hb2.mono hb.size)⟩⟩
theorem keepC {W : World} {b o : Nat} {v : Value} (h : W.cell? ⟨b, o, none⟩ = some v) : ∀ w1, Below W.heap.size W w1 → w1.cell? ⟨b, o, none⟩ = some v :=
  fun _ hb => (hb.cell (p := ⟨b, o, none⟩) (World.block_lt_of_cell? W _ h)).trans h
theorem cell_alloc_at (w : World) (cs : Array Value) (T j : Nat) (v : Value) (h : cs[j]? = some v) : (w.alloc (.cells cs T)).cell? ⟨w.heap.size, j, none⟩ = some v := by
  unfold World.cell?; simp only [heap_alloc_new w (.cells cs T)]; simp [h]
theorem cell_alloc_old (w : World) (o : Obj) (b j : Nat) (v : Value) (h : w.cell? ⟨b, j, none⟩ = some v) : (w.alloc o).cell? ⟨b, j, none⟩ = some v :=
  ((Below.refl _ w).alloc (Nat.le_refl _) o).cell (p := ⟨b, j, none⟩) (World.block_lt_of_cell? w _ h) |>.trans h
theorem add_off (b off j : Nat) : (⟨b, off, none⟩ : Addr).add j = ⟨b, off + j, none⟩ := by unfold Addr.add; split <;> simp_all
/-- the cells from an address on -/
def Cells (w : World) (A : Option Addr) (cs : List Value) : Prop :=
  ∀ j (h : j < cs.length), ∃ b off, A = some ⟨b, off, none⟩ ∧ w.cell? ⟨b, off + j, none⟩ = some cs[j]
def ints (xs : List Int) : List Value := xs.map fun x => .int .i64 x
theorem ints_length (xs : List Int) : (ints xs).length = xs.length := by simp [ints]
theorem Cells.below {w w1 : World} {A : Option Addr} {cs : List Value} (h : Cells w A cs) (hb : Below w.heap.size w w1) : Cells w1 A cs := by
  intro j hj
  obtain ⟨b, off, hA, hc⟩ := h j hj
  exact ⟨b, off, hA, (hb.cell (p := ⟨b, _, none⟩) (World.block_lt_of_cell? w _ hc)).trans hc⟩
theorem Cells.int {w : World} {A : Option Addr} {xs : List Int} (h : Cells w A (ints xs)) (j : Nat) (hj : j < xs.length) :
    ∃ b off, A = some ⟨b, off, none⟩ ∧ b < w.heap.size ∧ w.cell? ⟨b, off + j, none⟩ = some (.int .i64 xs[j]) := by
  obtain ⟨b, off, hA, hc⟩ := h j (by rw [ints_length]; exact hj)
  simp only [ints, List.getElem_map] at hc
  exact ⟨b, off, hA, World.block_lt_of_cell? w _ hc, hc⟩
theorem cells4 {w : World} {b : Nat} {x0 x1 x2 x3 : Int} (h0 : w.cell? ⟨b, 0, none⟩ = some (.int .i64 x0)) (h1 : w.cell? ⟨b, 1, none⟩ = some (.int .i64 x1))
    (h2 : w.cell? ⟨b, 2, none⟩ = some (.int .i64 x2)) (h3 : w.cell? ⟨b, 3, none⟩ = some (.int .i64 x3)) : Cells w (some ⟨b, 0, none⟩) (ints [x0, x1, x2, x3]) := by
  intro j hj
  refine ⟨b, 0, rfl, ?_⟩
  simp only [ints, List.length_map, List.length_cons, List.length_nil] at hj
  rcases j with _ | _ | _ | _ | j
  · exact h0
  · exact h1
  · exact h2
  · exact h3
  · omega
structure T4 where
  a : Int
  b : Int
  c : Int
  d : Int
  deriving DecidableEq, Inhabited
def T4.l (t : T4) : List Int := [t.a, t.b, t.c, t.d]
theorem T4.len (t : T4) : t.l.length = 4 := rfl
/-- a slice of tiles reads as a list -/
def TileCells (w : World) (A : Option Addr) (ts : List T4) : Prop :=
  ∀ k (h : k < ts.length), ∃ b off, A = some ⟨b, off, none⟩ ∧ b < w.heap.size ∧ w.cell? ⟨b, off + k * 4, none⟩ = some (.int .i64 ts[k].a) ∧ w.cell? ⟨b, off + k * 4 + 1, none⟩ = some (.int .i64 ts[k].b) ∧
    w.cell? ⟨b, off + k * 4 + 2, none⟩ = some (.int .i64 ts[k].c) ∧ w.cell? ⟨b, off + k * 4 + 3, none⟩ = some (.int .i64 ts[k].d)
theorem TileCells.below {w w1 : World} {A : Option Addr} {ts : List T4} (h : TileCells w A ts) (hb : Below w.heap.size w w1) : TileCells w1 A ts := by
  intro k hk
  obtain ⟨b, off, hA, hlt, h0, h1, h2, h3⟩ := h k hk
  exact ⟨b, off, hA, Nat.lt_of_lt_of_le hlt hb.size, (hb.cell (p := ⟨b, _, none⟩) hlt).trans h0, (hb.cell (p := ⟨b, _, none⟩) hlt).trans h1, (hb.cell (p := ⟨b, _, none⟩) hlt).trans h2, (hb.cell (p := ⟨b, _, none⟩) hlt).trans h3⟩
theorem TileCells.pair {w : World} {A : Option Addr} {ts : List T4} (h : TileCells w A ts) {b off : Nat} (hA : A = some ⟨b, off, none⟩) (k : Nat) (hk : k < ts.length) :
    w.cell? ⟨b, off + k * 4, none⟩ = some (.int .i64 ts[k].a) ∧ w.cell? ⟨b, off + k * 4 + 1, none⟩ = some (.int .i64 ts[k].b) ∧
    w.cell? ⟨b, off + k * 4 + 2, none⟩ = some (.int .i64 ts[k].c) ∧ w.cell? ⟨b, off + k * 4 + 3, none⟩ = some (.int .i64 ts[k].d) := by
  obtain ⟨b', off', hA', _, h4⟩ := h k hk
  rw [hA] at hA'
  injection hA' with hA'
  injection hA' with e1 e2
  subst e1 e2
  exact h4
end Go.Proofs.YtnoehaphbpkpjaaGreat
namespace Go.Proofs.YtnoehaphbpkpjaaGreat
open Go.RowKit
theorem pigeon : ∀ (N : Nat) (f : Nat → Int) (m : Nat), (∀ a, a < m → 0 ≤ f a ∧ f a < N) → (∀ a b, a < b → b < m → f a ≠ f b) → m ≤ N
  | 0, f, m, h, _ => by
    rcases Nat.eq_zero_or_pos m with h0 | h0
    · omega
    · have := h 0 h0; omega
  | N + 1, f, m, h, hd => by
    by_cases hx : ∃ a, a < m ∧ f a = N
    · obtain ⟨a0, ha0, e0⟩ := hx
      have h2 : m - 1 ≤ N := by
        refine pigeon N (fun a => if a < a0 then f a else f (a + 1)) (m - 1) (fun a ha => ?_) (fun a b hab hb => ?_)
        · show 0 ≤ (if a < a0 then f a else f (a + 1)) ∧ (if a < a0 then f a else f (a + 1)) < (N : Int)
          split
          · rename_i hh
            have h1 := h a (by omega)
            have h3 := hd a a0 hh ha0
            omega
          · rename_i hh
            have h1 := h (a + 1) (by omega)
            have h3 := hd a0 (a + 1) (by omega) (by omega)
            omega
        · show (if a < a0 then f a else f (a + 1)) ≠ (if b < a0 then f b else f (b + 1))
          split <;> split
          · exact hd a b hab (by omega)
          · exact hd a (b + 1) (by omega) (by omega)
          · omega
          · exact hd (a + 1) (b + 1) (by omega) (by omega)
      omega
    · have : m ≤ N := by
        refine pigeon N f m (fun a ha => ?_) hd
        have h1 := h a ha
        have h2 : f a ≠ N := fun e => hx ⟨a, ha, e⟩
        omega
      omega

end Go.Proofs.YtnoehaphbpkpjaaGreat
