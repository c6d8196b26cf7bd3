/- Contracts and lemmas for the statements of this seat, written for this claim; each theorem states its own conditions. -/
import Derived.Test.YtfkmophmiiehlaaKbM3
set_option linter.unusedVariables false
set_option linter.unusedSimpArgs false
namespace Go.Proofs.Ytfkmophmiiehlaa
open Go.RowKit
def marksP (k n : Nat) : List P2 := (List.range n).map fun j => ⟨((k + j * 2 : Nat) : Int), ((k + j * 2 + 1 : Nat) : Int)⟩
theorem marksP_len (k n : Nat) : (marksP k n).length = n := by simp [marksP]
theorem pcells_snoc (ts : List P2) (t : P2) : pcells (ts ++ [t]) = pcells ts ++ [.int .i64 t.t, .int .i64 t.n] := by rw [pcells_append]; rfl
theorem pcells_marksP (k : Nat) : ∀ n, pcells (marksP k n) = ints (marks k (n * 2))
  | 0 => by simp [marksP, pcells, marks, ints]
  | n + 1 => by
    have e : marksP k (n + 1) = marksP k n ++ [⟨((k + n * 2 : Nat) : Int), ((k + n * 2 + 1 : Nat) : Int)⟩] := by simp [marksP, List.range_succ]
    rw [e, pcells_snoc, pcells_marksP k n, show (n + 1) * 2 = n * 2 + 1 + 1 by omega]
    simp [marks, ints, List.range_succ]
    omega
set_option maxRecDepth 100000 in
set_option maxHeartbeats 1000000 in
theorem markPP1_c (v : Value) (ts : List P2) (k B : Nat) (w : World) (hO : OwnP w B v ts) (hn : ts.length ≤ 1000000000) (hk : k ≤ 1000000000000) :
    Calls Try.prog 70 #[v, .int .i64 k] w fun e w' => e = .returned (.int .i64 ((k + ts.length * 2 : Nat) : Int)) ∧ OwnP w' B v (marksP k ts.length) ∧ w.grownBy w' v.ownBlock := by
  have hfin : ∀ w', w'.ownsRow B 90 2 v ts.length (ints (marks k (ts.length * 2))) → OwnP w' B v (marksP k ts.length) := fun w' h => by
    unfold OwnP; rw [pcells_marksP, marksP_len]; exact h
  have HF := Lib.hid hfin
  have hO' : w.ownsRow B 90 2 v ts.length (pcells ts) := hO
  have hcl := pcells_length ts
  obtain ⟨A, cx, rfl, _, _⟩ := hO.shape
  have hA : 0 < ts.length → ∃ g, A = some ⟨g, 0, none⟩ := by
    intro h0
    obtain ⟨_, ⟨_, h⟩ | ⟨g, cap, cur, e, _⟩⟩ := hO
    · omega
    · injection e with e1 e2 e3; exact ⟨g, e1⟩
  have HA := Lib.hid hA
  have HO := Lib.hid hO'
  have HCL := Lib.hid hcl
  clear hO hO' hA hfin hcl
  generalize pcells ts = cs at *
  generalize ts.length = n at *
  go_enter Try.func70, Try.ntmps70
  go_wp2
  go_loopw [1, 5] (fun m i wr => ∃ j : Nat, j ≤ n ∧ m = .int .i64 ((k + j * 2 : Nat) : Int) ∧ i = .int .i64 j ∧ Hid (wr.ownsRow B 90 2 (.slice A n cx) n (ints (marks k (j * 2)) ++ cs.drop (j * 2))) ∧ Hid (w.grownBy wr (Value.ownBlock (.slice A n cx)))) (fun _ i _ => n - (intOf i).toNat)
  case atStart => exact ⟨0, by omega, by simp, rfl, by show World.ownsRow _ _ _ _ _ _ _; simpa [marks, ints] using HO.out, World.grownBy.refl _ _⟩
  case round =>
    obtain ⟨j, hj, rfl, rfl, HC, HG⟩ := hrel
    by_cases hjn : j < n
    · obtain ⟨g, rfl⟩ := HA.out (by omega)
      have l0 : j * 2 < cs.length := by have := HCL.out; omega
      have l1 : j * 2 + 1 < cs.length := by have := HCL.out; omega
      have HS0 := Lib.hid (marks_step4 k (j * 2) cs l0)
      have HS1 := Lib.hid (marks_step4 k (j * 2 + 1) cs l1)
      have hll : (ints (marks k (j * 2)) ++ cs.drop (j * 2)).length = cs.length := by rw [List.length_append, ints_length, marks_len, List.length_drop]; omega
      have r0 := World.ownsRow.cellAt HC.out (j * 2) (by omega)
      have r1 := World.ownsRow.cellAt HC.out (j * 2 + 1) (by omega)
      rw [List.getElem?_eq_getElem (by rw [hll]; exact l0)] at r0
      rw [List.getElem?_eq_getElem (by rw [hll]; exact l1)] at r1
      have z0 := World.ownsRow.frozenAt HC.out (j * 2)
      have z1 := World.ownsRow.frozenAt HC.out (j * 2 + 1)
      generalize (ints (marks k (j * 2)) ++ cs.drop (j * 2))[j * 2]'(by rw [hll]; exact l0) = u0 at *
      generalize (ints (marks k (j * 2)) ++ cs.drop (j * 2))[j * 2 + 1]'(by rw [hll]; exact l1) = u1 at *
      have hlt0 : g < wr.heap.size := (World.ownsRow.lt HC.out g rfl).2
      clear l0 l1 hll
      go_wp2_with fail
      go_roundw
      case rel =>
        refine ⟨j + 1, by omega, by go_num, by go_num, ?_, ?_⟩
        · show World.ownsRow _ _ _ _ _ _ _
          have a0 := (World.ownsRow.stored HC.out (j * 2) (.int .i64 ((k + j * 2 : Nat) : Int))).1
          rw [HS0.out] at a0
          have a1 := (World.ownsRow.stored a0 (j * 2 + 1) (.int .i64 ((k + (j * 2 + 1) : Nat) : Int))).1
          rw [HS1.out] at a1
          rw [show (j + 1) * 2 = j * 2 + 1 + 1 by omega]
          have e0 : ((k + j * 2 : Nat) : Int) = (k : Int) + j * 2 := by omega
          have e1 : ((k + (j * 2 + 1) : Nat) : Int) = (k : Int) + j * 2 + 1 := by omega
          rw [e0, e1] at a1
          exact a1
        · exact (HG.out.trans (World.ownsRow.stored HC.out (j * 2) _).2).trans (World.ownsRow.stored (World.ownsRow.stored HC.out (j * 2) _).1 (j * 2 + 1) _).2
      case measure => simp [intOf]; omega
    · obtain rfl : j = n := by omega
      go_wp2
      go_ret
      refine ⟨rfl, HF.out _ ?_, HG.out⟩
      have := HC.out
      rw [List.drop_eq_nil_of_le (by have := HCL.out; omega), List.append_nil] at this
      exact this
def marksPP : Nat → List (List P2) → List (List P2)
  | _, [] => []
  | k, r :: L => marksP k r.length :: marksPP (k + r.length * 2) L
theorem marksPP_len : ∀ (L : List (List P2)) (k : Nat), (marksPP k L).length = L.length
  | [], _ => rfl
  | r :: L, k => by simp [marksPP, marksPP_len L]
theorem totP_nil : totP [] = 0 := rfl
theorem totP_cons (r : List P2) (L : List (List P2)) : totP (r :: L) = r.length * 2 + totP L := by simp [totP]
theorem totP_take_le : ∀ (L : List (List P2)) (j : Nat), totP (L.take j) ≤ totP L
  | [], j => by simp [totP]
  | r :: L, 0 => by simp [totP]
  | r :: L, j + 1 => by simp only [List.take_succ_cons, totP_cons]; have := totP_take_le L j; omega
theorem marksPP_get : ∀ (L : List (List P2)) (k j : Nat) (h : j < (marksPP k L).length) (h' : j < L.length), (marksPP k L)[j] = marksP (k + totP (L.take j)) L[j].length
  | r :: L, k, 0, _, _ => by simp [marksPP, totP]
  | r :: L, k, j + 1, h, h' => by
    simp only [marksPP, List.getElem_cons_succ, List.take_succ_cons, totP_cons]
    rw [marksPP_get L (k + r.length * 2) j (by simpa [marksPP] using h) (by simpa using h')]
    congr 1; omega
/-- j rows marked, the others as they were -/
def marksPPo (k : Nat) (L : List (List P2)) (j : Nat) : List (List P2) := (marksPP k L).take j ++ L.drop j
theorem marksPPo_len (k : Nat) (L : List (List P2)) (j : Nat) (hj : j ≤ L.length) : (marksPPo k L j).length = L.length := by simp [marksPPo, marksPP_len]; omega
theorem marksPPo_get (k : Nat) (L : List (List P2)) (j i : Nat) (h : i < (marksPPo k L j).length) (hj : j ≤ L.length) (h' : i < L.length) :
    (marksPPo k L j)[i] = if i < j then marksP (k + totP (L.take i)) L[i].length else L[i] := by
  apply Option.some.inj
  rw [← List.getElem?_eq_getElem h]
  unfold marksPPo
  by_cases hi : i < j
  · rw [if_pos hi, List.getElem?_append_left (by simp [marksPP_len]; omega), List.getElem?_take_of_lt hi, List.getElem?_eq_getElem (by rw [marksPP_len]; exact h'), marksPP_get L k i (by rw [marksPP_len]; exact h') h']
  · rw [if_neg hi, List.getElem?_append_right (by simp [marksPP_len]; omega), List.getElem?_drop, ← List.getElem?_eq_getElem h']
    congr 1
    simp [marksPP_len]; omega
theorem marksPPo_all (k : Nat) (L : List (List P2)) : marksPPo k L L.length = marksPP k L := by
  unfold marksPPo
  rw [List.take_of_length_le (by rw [marksPP_len]; exact Nat.le_refl _), List.drop_of_length_le (Nat.le_refl _), List.append_nil]
/-- as OwnPP, and the blocks of the rows lie ahead of N -/
def OwnPN (w : World) (B N : Nat) (v : Value) (L : List (List P2)) : Prop :=
  ∃ vs : List Value, w.ownsRow B 87 1 v L.length vs ∧ (∀ i (h : i < vs.length) (h' : i < L.length), OwnP w B vs[i] L[i]) ∧
    (∀ i j (h : i < vs.length) (h' : j < vs.length), i ≠ j → Apart vs[i] vs[j]) ∧ (∀ i (h : i < vs.length), Apart vs[i] v) ∧ ∀ i (h : i < vs.length) k, vs[i].ownBlock = some k → k < N
theorem OwnPP.toN {w : World} {B : Nat} {v : Value} {L : List (List P2)} (h : OwnPP w B v L) : OwnPN w B w.heap.size v L := by
  obtain ⟨vs, h1, h2, h3, h4⟩ := h
  have hl : vs.length = L.length := by have := h1.1; omega
  exact ⟨vs, h1, h2, h3, h4, fun i hi k hk => (World.ownsRow.lt (h2 i hi (by omega)) k hk).2⟩
theorem OwnPN.toII {w : World} {B N : Nat} {v : Value} {L : List (List P2)} (h : OwnPN w B N v L) : OwnPP w B v L := by
  obtain ⟨vs, h1, h2, h3, h4, _⟩ := h
  exact ⟨vs, h1, h2, h3, h4⟩
theorem OwnPN.same {w w' : World} {B N : Nat} {v : Value} {L : List (List P2)} (h : OwnPN w B N v L) (hs : ∀ k, B ≤ k → k < w.heap.size → w'.heap[k]? = w.heap[k]?) : OwnPN w' B N v L := by
  obtain ⟨vs, h1, h2, h3, h4, h5⟩ := h
  exact ⟨vs, ownsRow_same h1 fun k hk => hs k (World.ownsRow.lt h1 k hk).1 (World.ownsRow.lt h1 k hk).2, fun i hi hi' => (h2 i hi hi').same hs, h3, h4, h5⟩
theorem OwnPP.same {w w' : World} {B : Nat} {v : Value} {L : List (List P2)} (h : OwnPP w B v L) (hs : ∀ k, B ≤ k → k < w.heap.size → w'.heap[k]? = w.heap[k]?) : OwnPP w' B v L := by
  obtain ⟨vs, h1, h2, h3, h4⟩ := h
  exact ⟨vs, ownsRow_same h1 fun k hk => hs k (World.ownsRow.lt h1 k hk).1 (World.ownsRow.lt h1 k hk).2, fun i hi hi' => (h2 i hi hi').same hs, h3, h4⟩
set_option maxRecDepth 100000 in
set_option maxHeartbeats 1000000 in
theorem markPlacedSS_c (L : List (List P2)) (v : Value) (k B N : Nat) (w : World) (hO : OwnPN w B N v L) (hB : B ≤ w.heap.size) (hl : L.length ≤ 1000000000) (hS : ShortP 1000000000 L) (hk : k + totP L ≤ 1000000000000) :
    Calls Try.prog 28 #[v, .int .i64 k] w fun e w' => e = .returned (.int .i64 ((k + totP L : Nat) : Int)) ∧ OwnPN w' B N v (marksPP k L) ∧ Touch B N w w' := by
  obtain ⟨vs, h1, h2, h3, h4, h6⟩ := hO
  have H6 := Lib.hid h6
  have hvl : vs.length = L.length := by have := h1.1; omega
  have hsh : ∃ A cx, v = .slice A L.length cx := by
    obtain ⟨_, h5⟩ := h1
    rcases h5 with ⟨rfl, h5⟩ | ⟨g, cap, cur, rfl, _⟩
    · exact ⟨none, 0, by rw [h5]⟩
    · exact ⟨_, _, rfl⟩
  obtain ⟨A, cx, rfl⟩ := hsh
  have H1 := Lib.hid h1
  have H2 := Lib.hid h2
  have H3 := Lib.hid h3
  have H4 := Lib.hid h4
  have HT := Lib.hid (totP_take_le L)
  have HVL := Lib.hid hvl
  clear h1 h2 h3 h4 h6 hvl
  go_enter Try.func28, Try.ntmps28
  go_wp2
  go_loopw [1, 5] (fun m i wr => ∃ j : Nat, j ≤ L.length ∧ m = .int .i64 ((k + totP (L.take j) : Nat) : Int) ∧ i = .int .i64 j ∧ Hid (wr.ownsRow B 87 1 (.slice A L.length cx) L.length vs) ∧
    Hid (∀ i (h : i < vs.length) (h' : i < (marksPPo k L j).length), OwnP wr B vs[i] (marksPPo k L j)[i]) ∧ Touch B N w wr) (fun _ i _ => L.length - (intOf i).toNat)
  case atStart => exact ⟨0, by omega, by simp [totP], rfl, H1.out, fun i h h' => by
    have hh : i < L.length := by rw [← HVL.out]; exact h
    have := H2.out i h hh
    rw [marksPPo_get k L 0 i h' (by omega) hh]
    simpa using this, Touch.refl _ _ _⟩
  case round =>
    obtain ⟨j, hj, rfl, rfl, HR, HO, hb⟩ := hrel
    have Hb := Lib.hid hb
    by_cases hjL : j < L.length
    · have hjv : j < vs.length := by rw [HVL.out]; exact hjL
      have hjm : j < (marksPPo k L j).length := by rw [marksPPo_len k L j hj]; exact hjL
      have o1 := HO.out j hjv hjm
      rw [marksPPo_get k L j j hjm hj hjL, if_neg (by omega)] at o1
      have h0 := HR.out
      obtain ⟨hA1, hA2⟩ := h0
      rcases hA2 with ⟨e1, e2⟩ | ⟨g, cap, cur, e1, e2, e3, _⟩
      · omega
      · injection e1 with e1 _ e1c
        subst e1 e1c
        have hc := World.ownsRow.cellAt HR.out j (by omega)
        rw [List.getElem?_eq_getElem hjv] at hc
        have HM := Lib.hid (markPP1_c vs[j] L[j] (k + totP (L.take j)) B wr o1 (hS j hjL) (by have := HT.out j; omega))
        have HTT := Lib.hid (totP_take hjL)
        generalize hvj : vs[j] = vj at *
        have HVJ := Lib.hid hvj
        have hjv2 : j < L.length := hjL
        clear hA1 e3 o1 hb hvj hS
        go_wp2_with fail
        refine HM.out.mono ?_
        rintro e w1 ⟨rfl, hO1, hg⟩
        have HO1 := Lib.hid hO1
        have HG := Lib.hid hg
        clear hO1 hg
        go_wp2
        go_roundw
        case rel =>
          refine ⟨j + 1, by omega, by rw [HTT.out]; go_num, by go_num, World.ownsRow.kept HR.out HG.out ?_, fun i h h' => ?_, ?_⟩
          · have := (H4.out j hjv).symm
            rw [HVJ.out] at this
            exact this
          · have hiL : i < L.length := by rw [← HVL.out]; exact h
            rw [marksPPo_get k L (j + 1) i h' (by omega) hiL]
            by_cases e : i = j
            · subst e
              rw [if_pos (by omega), HVJ.out]
              exact HO1.out
            · have him : i < (marksPPo k L j).length := by rw [marksPPo_len k L j hj]; exact hiL
              have o2 := HO.out i h him
              rw [marksPPo_get k L j i him hj hiL] at o2
              have hap := H3.out i j h hjv e
              rw [HVJ.out] at hap
              have o3 := o2.grown HG.out hap
              by_cases e2 : i < j
              · rw [if_pos (by omega)]; rw [if_pos e2] at o3; exact o3
              · rw [if_neg (by omega)]; rw [if_neg e2] at o3; exact o3
          · refine Hb.out.grow HG.out (fun q hq => ?_)
            have o2 := HO.out j hjv hjm
            rw [HVJ.out] at o2
            have o3 := H6.out j hjv q
            rw [HVJ.out] at o3
            exact ⟨(World.ownsRow.lt o2 q hq).1, o3 hq⟩
        case measure => simp [intOf]; omega
    · obtain rfl : j = L.length := by omega
      clear hb
      rw [List.take_length]
      go_wp2
      go_ret
      refine ⟨rfl, ⟨vs, by rw [marksPP_len]; exact HR.out, fun i h h' => ?_, H3.out, H4.out, H6.out⟩, Hb.out⟩
      have hiL : i < L.length := by rw [← HVL.out]; exact h
      have := HO.out i h (by rw [marksPPo_len k L _ (Nat.le_refl _)]; exact hiL)
      simp only [marksPPo_all] at this
      exact this
theorem OwnPP.kept {w w' : World} {B : Nat} {v : Value} {L : List (List P2)} {row : Option Nat} (h : OwnPP w B v L) (hg : w.grownBy w' row) (hr : ∀ k, row = some k → k < B) : OwnPP w' B v L := by
  obtain ⟨vs, h1, h2, h3, h4⟩ := h
  have ne : ∀ (u : Value) (n : Nat) (xs : List Value) (e : TypeId) (s : Nat), w.ownsRow B e s u n xs → u.ownBlock = none ∨ u.ownBlock ≠ row := fun u n xs e s ho => by
    cases eu : u.ownBlock with
    | none => exact .inl rfl
    | some k =>
      right
      have := (World.ownsRow.lt ho k eu).1
      intro e2
      have := hr k e2.symm
      omega
  exact ⟨vs, World.ownsRow.kept h1 hg (ne _ _ _ _ _ h1), fun i hi hi' => World.ownsRow.kept (h2 i hi hi') hg (ne _ _ _ _ _ (h2 i hi hi')), h3, h4⟩
theorem OwnPP.below {w w1 : World} {B : Nat} {v : Value} {L : List (List P2)} (h : OwnPP w B v L) (hb : Below w.heap.size w w1) : OwnPP w1 B v L := by
  obtain ⟨vs, h1, h2, h3, h4⟩ := h
  refine ⟨vs, ?_, fun i hi hi' => (h2 i hi hi').below hb, h3, h4⟩
  exact World.ownsRow.kept (row := none) h1 ⟨hb.os, hb.tape, hb.output, hb.size, fun k hk _ => hb.block k hk⟩ (by cases h : v.ownBlock with | none => exact .inl rfl | some k => exact .inr (by simp))
theorem OwnPP.weaken {w : World} {B B' : Nat} {v : Value} {L : List (List P2)} (h : OwnPP w B v L) (hB : B' ≤ B) : OwnPP w B' v L := by
  obtain ⟨vs, ⟨a1, a2⟩, h2, h3, h4⟩ := h
  refine ⟨vs, ⟨a1, ?_⟩, fun i hi hi' => (h2 i hi hi').weaken hB, h3, h4⟩
  rcases a2 with a2 | ⟨g, cap, cur, e1, e2, e3⟩
  · exact .inl a2
  · exact .inr ⟨g, cap, cur, e1, Nat.le_trans hB e2, e3⟩
theorem OwnPP.nil (w : World) (B : Nat) : OwnPP w B (.slice none 0 0) [] := ⟨[], World.ownsRow_nil _ _ _ _, fun i h => by simp at h, fun i j h => by simp at h, fun i h => by simp at h⟩
theorem OwnPP.empty {w : World} {B g : Nat} (hg : w.heap.size = g) (hB : B ≤ w.heap.size) : OwnPP (w.alloc (.cells #[] 87)) B (.slice (some ⟨g, 0, none⟩) 0 0) [] := by
  subst hg
  exact ⟨[], World.ownsRow_lit (base := B) (e := 87) (size := 1) w #[] 0 hB (by simp [maxLen]) (by simp), fun i h => by simp at h, fun i j h => by simp at h, fun i h => by simp at h⟩
theorem OwnP.to2 {w w1 : World} {B : Nat} {v : Value} {xs : List P2} (h : OwnP w B v xs) (hb : Below w.heap.size w w1) : OwnP w1 B v xs := h.below hb

end Go.Proofs.Ytfkmophmiiehlaa
