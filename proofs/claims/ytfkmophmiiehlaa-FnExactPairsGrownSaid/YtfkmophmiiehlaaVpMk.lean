/- Contracts and lemmas for the statements of this seat, written for this claim; each theorem states its own conditions. -/
import Derived.Test.YtfkmophmiiehlaaVpRo
set_option linter.unusedVariables false
set_option linter.unusedSimpArgs false
namespace Go.Proofs.Ytfkmophmiiehlaa
open Go.RowKit
def marksII : Nat → List (List Int) → List (List Int)
  | _, [] => []
  | k, r :: L => marks k r.length :: marksII (k + r.length) L
theorem marksII_len : ∀ (L : List (List Int)) (k : Nat), (marksII k L).length = L.length
  | [], _ => rfl
  | r :: L, k => by simp [marksII, marksII_len L]
theorem tot_nil : tot [] = 0 := rfl
theorem tot_cons (r : List Int) (L : List (List Int)) : tot (r :: L) = r.length + tot L := by simp [tot]
theorem tot_take_le : ∀ (L : List (List Int)) (j : Nat), tot (L.take j) ≤ tot L
  | [], j => by simp [tot]
  | r :: L, 0 => by simp [tot]
  | r :: L, j + 1 => by simp only [List.take_succ_cons, tot_cons]; have := tot_take_le L j; omega
theorem marksII_get : ∀ (L : List (List Int)) (k j : Nat) (h : j < (marksII k L).length) (h' : j < L.length), (marksII k L)[j] = marks (k + tot (L.take j)) L[j].length
  | r :: L, k, 0, _, _ => by simp [marksII, tot]
  | r :: L, k, j + 1, h, h' => by
    simp only [marksII, List.getElem_cons_succ, List.take_succ_cons, tot_cons]
    rw [marksII_get L (k + r.length) j (by simpa [marksII] using h) (by simpa using h')]
    congr 1; omega
/-- j rows marked, the others as they were -/
def marksTo (k : Nat) (L : List (List Int)) (j : Nat) : List (List Int) := (marksII k L).take j ++ L.drop j
theorem marksTo_len (k : Nat) (L : List (List Int)) (j : Nat) (hj : j ≤ L.length) : (marksTo k L j).length = L.length := by simp [marksTo, marksII_len]; omega
theorem marksTo_get (k : Nat) (L : List (List Int)) (j i : Nat) (h : i < (marksTo k L j).length) (hj : j ≤ L.length) (h' : i < L.length) :
    (marksTo k L j)[i] = if i < j then marks (k + tot (L.take i)) L[i].length else L[i] := by
  apply Option.some.inj
  rw [← List.getElem?_eq_getElem h]
  unfold marksTo
  by_cases hi : i < j
  · rw [if_pos hi, List.getElem?_append_left (by simp [marksII_len]; omega), List.getElem?_take_of_lt hi, List.getElem?_eq_getElem (by rw [marksII_len]; exact h'), marksII_get L k i (by rw [marksII_len]; exact h') h']
  · rw [if_neg hi, List.getElem?_append_right (by simp [marksII_len]; omega), List.getElem?_drop, ← List.getElem?_eq_getElem h']
    congr 1
    simp [marksII_len]; omega
theorem marksTo_all (k : Nat) (L : List (List Int)) : marksTo k L L.length = marksII k L := by
  unfold marksTo
  rw [List.take_of_length_le (by rw [marksII_len]; exact Nat.le_refl _), List.drop_of_length_le (Nat.le_refl _), List.append_nil]
theorem grow_to_below {B : Nat} {w w' : World} {row : Option Nat} (hg : w.grownBy w' row) (hB : B ≤ w.heap.size) (hr : ∀ k, row = some k → B ≤ k) : Below B w w' := (Below.refl B w).grown hg hB hr
theorem grow_alloc {w w' : World} {row : Option Nat} (h : w.grownBy w' row) (o : Obj) : w.grownBy (w'.alloc o) row :=
  h.trans ⟨rfl, rfl, rfl, by simp, fun k hk _ => Below.heap_alloc w' o k hk⟩
theorem ownsRow_same {w w' : World} {B : Nat} {e : TypeId} {size : Nat} {v : Value} {n : Nat} {xs : List Value} (h : w.ownsRow B e size v n xs) (hs : ∀ k, v.ownBlock = some k → w'.heap[k]? = w.heap[k]?) : w'.ownsRow B e size v n xs := by
  obtain ⟨h1, h2⟩ := h
  refine ⟨h1, ?_⟩
  rcases h2 with h2 | ⟨g, cap, cur, rfl, e2, e3, e4⟩
  · exact .inl h2
  · exact .inr ⟨g, cap, cur, rfl, e2, (hs g rfl).trans e3, e4⟩
theorem OwnI.same {w w' : World} {B : Nat} {v : Value} {xs : List Int} (h : OwnI w B v xs) (hs : ∀ k, B ≤ k → k < w.heap.size → w'.heap[k]? = w.heap[k]?) : OwnI w' B v xs :=
  ownsRow_same h fun k hk => hs k (World.ownsRow.lt h k hk).1 (World.ownsRow.lt h k hk).2
/-- as OwnII, and the blocks of the rows lie ahead of N -/
def OwnN (w : World) (B N : Nat) (v : Value) (L : List (List Int)) : Prop :=
  ∃ vs : List Value, w.ownsRow B 63 1 v L.length vs ∧ (∀ i (h : i < vs.length) (h' : i < L.length), OwnI w B vs[i] L[i]) ∧
    (∀ i j (h : i < vs.length) (h' : j < vs.length), i ≠ j → Apart vs[i] vs[j]) ∧ (∀ i (h : i < vs.length), Apart vs[i] v) ∧ ∀ i (h : i < vs.length) k, vs[i].ownBlock = some k → k < N
theorem OwnII.toN {w : World} {B : Nat} {v : Value} {L : List (List Int)} (h : OwnII w B v L) : OwnN w B w.heap.size v L := by
  obtain ⟨vs, h1, h2, h3, h4⟩ := h
  have hl : vs.length = L.length := by have := h1.1; omega
  exact ⟨vs, h1, h2, h3, h4, fun i hi k hk => (World.ownsRow.lt (h2 i hi (by omega)) k hk).2⟩
theorem OwnN.toII {w : World} {B N : Nat} {v : Value} {L : List (List Int)} (h : OwnN w B N v L) : OwnII w B v L := by
  obtain ⟨vs, h1, h2, h3, h4, _⟩ := h
  exact ⟨vs, h1, h2, h3, h4⟩
theorem OwnN.same {w w' : World} {B N : Nat} {v : Value} {L : List (List Int)} (h : OwnN w B N v L) (hs : ∀ k, B ≤ k → k < w.heap.size → w'.heap[k]? = w.heap[k]?) : OwnN w' B N v L := by
  obtain ⟨vs, h1, h2, h3, h4, h5⟩ := h
  exact ⟨vs, ownsRow_same h1 fun k hk => hs k (World.ownsRow.lt h1 k hk).1 (World.ownsRow.lt h1 k hk).2, fun i hi hi' => (h2 i hi hi').same hs, h3, h4, h5⟩
theorem OwnII.same {w w' : World} {B : Nat} {v : Value} {L : List (List Int)} (h : OwnII w B v L) (hs : ∀ k, B ≤ k → k < w.heap.size → w'.heap[k]? = w.heap[k]?) : OwnII w' B v L := by
  obtain ⟨vs, h1, h2, h3, h4⟩ := h
  exact ⟨vs, ownsRow_same h1 fun k hk => hs k (World.ownsRow.lt h1 k hk).1 (World.ownsRow.lt h1 k hk).2, fun i hi hi' => (h2 i hi hi').same hs, h3, h4⟩
/-- only blocks from B on and ahead of N may have changed, and new ones may have come -/
structure Touch (B N : Nat) (w w' : World) : Prop where
  os : w'.os = w.os
  tape : w'.tape = w.tape
  output : w'.output = w.output
  size : w.heap.size ≤ w'.heap.size
  block : ∀ k, k < w.heap.size → (k < B ∨ N ≤ k) → w'.heap[k]? = w.heap[k]?
theorem Touch.refl (B N : Nat) (w : World) : Touch B N w w := ⟨rfl, rfl, rfl, Nat.le_refl _, fun _ _ _ => rfl⟩
theorem Touch.grow {B N : Nat} {w w1 w2 : World} {row : Option Nat} (h : Touch B N w w1) (hg : w1.grownBy w2 row) (hr : ∀ k, row = some k → B ≤ k ∧ k < N) : Touch B N w w2 := by
  obtain ⟨g1, g2, g3, g4, g5⟩ := hg
  refine ⟨g1.trans h.os, g2.trans h.tape, g3.trans h.output, Nat.le_trans h.size g4, fun k hk hkk => (g5 k (Nat.lt_of_lt_of_le hk h.size) fun e => ?_).trans (h.block k hk hkk)⟩
  have := hr k e.symm
  omega
theorem Touch.below {B N : Nat} {w w' : World} (h : Touch B N w w') (hB : B ≤ w.heap.size) : Below B w w' := ⟨h.os, h.tape, h.output, Nat.le_trans hB h.size |> fun _ => h.size, fun k hk => h.block k (by omega) (.inl hk)⟩
theorem Touch.one {w w' : World} {b : Nat} (h : w.grownBy w' (some b)) : Touch b (b + 1) w w' := (Touch.refl _ _ _).grow h (fun k hk => by injection hk with hk; omega)
set_option maxRecDepth 100000 in
set_option maxHeartbeats 1000000 in
theorem markInt64SS_c (L : List (List Int)) (v : Value) (k B N : Nat) (w : World) (hO : OwnN w B N v L) (hB : B ≤ w.heap.size) (hl : L.length ≤ 1000000000) (hS : Short 1000000000 L) (hk : k + tot L ≤ 1000000000000) :
    Calls Try.prog 16 #[v, .int .i64 k] w fun e w' => e = .returned (.int .i64 ((k + tot L : Nat) : Int)) ∧ OwnN w' B N v (marksII k L) ∧ Touch B N w w' := by
  obtain ⟨vs, h1, h2, h3, h4, h6⟩ := hO
  have H6 := Lib.hid h6
  have hvl : vs.length = L.length := by have := h1.1; omega
  have hsh : ∃ A cx, v = .slice A L.length cx := by
    obtain ⟨_, h5⟩ := h1
    rcases h5 with ⟨rfl, h5⟩ | ⟨g, cap, cur, rfl, _⟩
    · exact ⟨none, 0, by rw [h5]⟩
    · exact ⟨_, _, rfl⟩
  obtain ⟨A, cx, rfl⟩ := hsh
  have H1 := Lib.hid h1
  have H2 := Lib.hid h2
  have H3 := Lib.hid h3
  have H4 := Lib.hid h4
  have HT := Lib.hid (tot_take_le L)
  have HVL := Lib.hid hvl
  clear h1 h2 h3 h4 h6 hvl
  go_enter Try.func16, Try.ntmps16
  go_wp2
  go_loopw [1, 5] (fun m i wr => ∃ j : Nat, j ≤ L.length ∧ m = .int .i64 ((k + tot (L.take j) : Nat) : Int) ∧ i = .int .i64 j ∧ Hid (wr.ownsRow B 63 1 (.slice A L.length cx) L.length vs) ∧
    Hid (∀ i (h : i < vs.length) (h' : i < (marksTo k L j).length), OwnI wr B vs[i] (marksTo k L j)[i]) ∧ Touch B N w wr) (fun _ i _ => L.length - (intOf i).toNat)
  case atStart => exact ⟨0, by omega, by simp [tot], rfl, H1.out, fun i h h' => by
    have hh : i < L.length := by rw [← HVL.out]; exact h
    have := H2.out i h hh
    rw [marksTo_get k L 0 i h' (by omega) hh]
    simpa using this, Touch.refl _ _ _⟩
  case round =>
    obtain ⟨j, hj, rfl, rfl, HR, HO, hb⟩ := hrel
    have Hb := Lib.hid hb
    by_cases hjL : j < L.length
    · have hjv : j < vs.length := by rw [HVL.out]; exact hjL
      have hjm : j < (marksTo k L j).length := by rw [marksTo_len k L j hj]; exact hjL
      have o1 := HO.out j hjv hjm
      rw [marksTo_get k L j j hjm hj hjL, if_neg (by omega)] at o1
      have h0 := HR.out
      obtain ⟨hA1, hA2⟩ := h0
      rcases hA2 with ⟨e1, e2⟩ | ⟨g, cap, cur, e1, e2, e3, _⟩
      · omega
      · injection e1 with e1 _ e1c
        subst e1 e1c
        have hc := World.ownsRow.cellAt HR.out j (by omega)
        rw [List.getElem?_eq_getElem hjv] at hc
        have HM := Lib.hid (markInt64S_c vs[j] L[j] (k + tot (L.take j)) B wr o1 (hS j hjL) (by have := HT.out j; omega))
        have HTT := Lib.hid (tot_take hjL)
        generalize hvj : vs[j] = vj at *
        have HVJ := Lib.hid hvj
        have hjv2 : j < L.length := hjL
        clear hA1 e3 o1 hb hvj hS
        go_wp2_with fail
        refine HM.out.mono ?_
        rintro e w1 ⟨rfl, hO1, hg⟩
        have HO1 := Lib.hid hO1
        have HG := Lib.hid hg
        clear hO1 hg
        go_wp2
        go_roundw
        case rel =>
          refine ⟨j + 1, by omega, by rw [HTT.out]; go_num, by go_num, World.ownsRow.kept HR.out HG.out ?_, fun i h h' => ?_, ?_⟩
          · have := (H4.out j hjv).symm
            rw [HVJ.out] at this
            exact this
          · have hiL : i < L.length := by rw [← HVL.out]; exact h
            rw [marksTo_get k L (j + 1) i h' (by omega) hiL]
            by_cases e : i = j
            · subst e
              rw [if_pos (by omega), HVJ.out]
              exact HO1.out
            · have him : i < (marksTo k L j).length := by rw [marksTo_len k L j hj]; exact hiL
              have o2 := HO.out i h him
              rw [marksTo_get k L j i him hj hiL] at o2
              have hap := H3.out i j h hjv e
              rw [HVJ.out] at hap
              have o3 := o2.grown HG.out hap
              by_cases e2 : i < j
              · rw [if_pos (by omega)]; rw [if_pos e2] at o3; exact o3
              · rw [if_neg (by omega)]; rw [if_neg e2] at o3; exact o3
          · refine Hb.out.grow HG.out (fun q hq => ?_)
            have o2 := HO.out j hjv hjm
            rw [HVJ.out] at o2
            have o3 := H6.out j hjv q
            rw [HVJ.out] at o3
            exact ⟨(World.ownsRow.lt o2 q hq).1, o3 hq⟩
        case measure => simp [intOf]; omega
    · obtain rfl : j = L.length := by omega
      clear hb
      rw [List.take_length]
      go_wp2
      go_ret
      refine ⟨rfl, ⟨vs, by rw [marksII_len]; exact HR.out, fun i h h' => ?_, H3.out, H4.out, H6.out⟩, Hb.out⟩
      have hiL : i < L.length := by rw [← HVL.out]; exact h
      have := HO.out i h (by rw [marksTo_len k L _ (Nat.le_refl _)]; exact hiL)
      simp only [marksTo_all] at this
      exact this
set_option maxRecDepth 100000 in
set_option maxHeartbeats 1000000 in
theorem heldInt64SS_c (L : List (List Int)) (A : Option Addr) (k cx : Nat) (w : World) (hR : RowsC w A (marksII k L)) (hl : L.length ≤ 1000000000) (hS : Short 1000000000 L) (hk : k + tot L ≤ 1000000000000) :
    Calls Try.prog 17 #[.slice A L.length cx, .int .i64 k] w fun e w' => e = .returned (.int .i64 ((k + tot L : Nat) : Int)) ∧ w = w' := by
  have HT := Lib.hid (tot_take_le L)
  go_enter Try.func17, Try.ntmps17
  go_wp2
  go_loop [1, 5] (fun m i => ∃ j : Nat, j ≤ L.length ∧ m = .int .i64 ((k + tot (L.take j) : Nat) : Int) ∧ i = .int .i64 j) (fun _ i => L.length - (intOf i).toNat)
  case atStart => exact ⟨0, by omega, by simp [tot], rfl⟩
  case round =>
    obtain ⟨j, hj, rfl, rfl⟩ := hrel
    by_cases hjL : j < L.length
    · have hjm : j < (marksII k L).length := by rw [marksII_len]; exact hjL
      obtain ⟨b, off, A1, c1, rfl, hlt, hc, hr⟩ := hR j hjm
      rw [marksII_get L k j hjm hjL] at hc hr
      rw [marks_len] at hc
      have HM := Lib.hid (heldInt64S_c A1 (k + tot (L.take j)) L[j].length c1 w hr (hS j hjL) (by have := HT.out j; omega))
      have HTT := Lib.hid (tot_take hjL)
      have hb := HT.out (j + 1)
      rw [HTT.out] at hb
      generalize L[j].length = n at *
      clear hr hR hS
      go_wp2_with fail
      refine HM.out.mono ?_
      rintro e w1 ⟨rfl, rfl⟩
      go_wp2
      go_round
      case rel => exact ⟨j + 1, by omega, by rw [HTT.out]; go_num, by go_num⟩
      case measure => simp [intOf]; omega
    · obtain rfl : j = L.length := by omega
      rw [List.take_length]
      clear hR hS
      go_wp2
      go_ret
      exact ⟨rfl, rfl⟩
set_option maxRecDepth 100000 in
set_option maxHeartbeats 1000000 in
theorem markTileS_c (b n : Nat) (cs : List Value) (T : TypeId) (k : Nat) (w : World) (hB : Blk w b cs T) (hcs : cs.length = n * 4) (hn : n ≤ 1000000000) (hk : k ≤ 1000000000000) :
    Calls Try.prog 27 #[.slice (some ⟨b, 0, none⟩) n n, .int .i64 k] w fun e w' => e = .returned (.int .i64 ((k + n * 4 : Nat) : Int)) ∧ w.grownBy w' (some b) := by
  go_enter Try.func27, Try.ntmps27
  go_wp2
  go_loopw [1, 5] (fun m i wr => ∃ j : Nat, j ≤ n ∧ m = .int .i64 ((k + j * 4 : Nat) : Int) ∧ i = .int .i64 j ∧ Hid (∃ cs : List Value, cs.length = n * 4 ∧ Blk wr b cs T) ∧ w.grownBy wr (some b)) (fun _ i _ => n - (intOf i).toNat)
  case atStart => exact ⟨0, by omega, by simp, rfl, ⟨cs, hcs, hB⟩, World.grownBy.refl _ _⟩
  case round =>
    obtain ⟨j, hj, rfl, rfl, HC, hg⟩ := hrel
    have HG := Lib.hid hg
    clear hB hg
    by_cases hjn : j < n
    · go_wp2_with fail
      go_loopw [1, 6] (fun m i wr => ∃ q : Nat, q ≤ 4 ∧ m = .int .i64 ((k + j * 4 + q : Nat) : Int) ∧ i = .int .i64 q ∧ Hid (∃ cs : List Value, cs.length = n * 4 ∧ Blk wr b cs T) ∧ w.grownBy wr (some b)) (fun _ i _ => 4 - (intOf i).toNat)
      case atStart => exact ⟨0, by omega, by simp, rfl, HC.out, HG.out⟩
      case round =>
        obtain ⟨q, hq, rfl, rfl, HC2, hg2⟩ := hrel
        have HG2 := Lib.hid hg2
        clear hg2
        by_cases hq4 : q < 4
        · obtain ⟨cs2, l2, B2⟩ := HC2.out
          have hlt : j * 4 + q < cs2.length := by omega
          have r0 := B2.cell (j * 4 + q) hlt
          have z0 := B2.frozen (j * 4 + q)
          generalize cs2[j * 4 + q] = u at *
          have HB2 := Lib.hid B2
          have hlt0 := B2.lt
          clear B2
          go_wp2_with fail
          go_roundw
          case rel => exact ⟨q + 1, by omega, by go_num, by go_num, ⟨_, by rw [List.length_set]; exact l2, HB2.out.set _ _⟩, HG2.out.trans ⟨rfl, rfl, rfl, by simp, fun x hx hne => Below.heap_setCell _ _ _ x (fun e => hne (by simp [e]))⟩⟩
          case measure => simp [intOf]; omega
        · obtain rfl : q = 4 := by omega
          go_wp2_with fail
          go_roundw
          case rel => exact ⟨j + 1, by omega, by go_num, by go_num, HC2.out, HG2.out⟩
          case measure => simp [intOf]; omega
    · obtain rfl : j = n := by omega
      go_wp2
      go_ret
      exact ⟨rfl, HG.out⟩
set_option maxRecDepth 100000 in
set_option maxHeartbeats 1000000 in
theorem markSet_c (c : Int) (b : Nat) (ts : List T4) (T : TypeId) (k : Nat) (w : World) (hB : Blk w b (tcells ts) T) (hn : ts.length ≤ 1000000000) (hk : k ≤ 1000000000000) :
    Calls Try.prog 15 #[.agg #[.int .i64 c, .slice (some ⟨b, 0, none⟩) ts.length ts.length], .int .i64 k] w fun e w' => e = .returned (.int .i64 ((k + ts.length * 4 : Nat) : Int)) ∧ w.grownBy w' (some b) := by
  have HM := Lib.hid (fun (wq : World) (h : Blk wq b (tcells ts) T) => markTileS_c b ts.length (tcells ts) T k wq h (tcells_length ts) hn hk)
  have HB := Lib.hid hB
  clear hB
  go_enter Try.func15, Try.ntmps15
  go_wp2_with fail
  refine (HM.out _ (HB.out.alloc _)).mono ?_
  rintro e w1 ⟨rfl, hg⟩
  have HG := Lib.hid hg
  clear hg
  go_wp2
  go_ret
  exact ⟨rfl, (grow_alloc (World.grownBy.refl _ _) _).trans HG.out⟩
theorem OwnII.kept {w w' : World} {B : Nat} {v : Value} {L : List (List Int)} {row : Option Nat} (h : OwnII w B v L) (hg : w.grownBy w' row) (hr : ∀ k, row = some k → k < B) : OwnII w' B v L := by
  obtain ⟨vs, h1, h2, h3, h4⟩ := h
  have ne : ∀ (u : Value) (n : Nat) (xs : List Value) (e : TypeId) (s : Nat), w.ownsRow B e s u n xs → u.ownBlock = none ∨ u.ownBlock ≠ row := fun u n xs e s ho => by
    cases eu : u.ownBlock with
    | none => exact .inl rfl
    | some k =>
      right
      have := (World.ownsRow.lt ho k eu).1
      intro e2
      have := hr k e2.symm
      omega
  exact ⟨vs, World.ownsRow.kept h1 hg (ne _ _ _ _ _ h1), fun i hi hi' => World.ownsRow.kept (h2 i hi hi') hg (ne _ _ _ _ _ (h2 i hi hi')), h3, h4⟩
theorem OwnII.below {w w1 : World} {B : Nat} {v : Value} {L : List (List Int)} (h : OwnII w B v L) (hb : Below w.heap.size w w1) : OwnII w1 B v L := by
  obtain ⟨vs, h1, h2, h3, h4⟩ := h
  refine ⟨vs, ?_, fun i hi hi' => (h2 i hi hi').below hb, h3, h4⟩
  exact World.ownsRow.kept (row := none) h1 ⟨hb.os, hb.tape, hb.output, hb.size, fun k hk _ => hb.block k hk⟩ (by cases h : v.ownBlock with | none => exact .inl rfl | some k => exact .inr (by simp))
theorem OwnII.weaken {w : World} {B B' : Nat} {v : Value} {L : List (List Int)} (h : OwnII w B v L) (hB : B' ≤ B) : OwnII w B' v L := by
  obtain ⟨vs, ⟨a1, a2⟩, h2, h3, h4⟩ := h
  refine ⟨vs, ⟨a1, ?_⟩, fun i hi hi' => (h2 i hi hi').weaken hB, h3, h4⟩
  rcases a2 with a2 | ⟨g, cap, cur, e1, e2, e3⟩
  · exact .inl a2
  · exact .inr ⟨g, cap, cur, e1, Nat.le_trans hB e2, e3⟩
theorem OwnII.nil (w : World) (B : Nat) : OwnII w B (.slice none 0 0) [] := ⟨[], World.ownsRow_nil _ _ _ _, fun i h => by simp at h, fun i j h => by simp at h, fun i h => by simp at h⟩
theorem OwnII.empty {w : World} {B g : Nat} (hg : w.heap.size = g) (hB : B ≤ w.heap.size) : OwnII (w.alloc (.cells #[] 63)) B (.slice (some ⟨g, 0, none⟩) 0 0) [] := by
  subst hg
  exact ⟨[], World.ownsRow_lit (base := B) (e := 63) (size := 1) w #[] 0 hB (by simp [maxLen]) (by simp), fun i h => by simp at h, fun i j h => by simp at h, fun i h => by simp at h⟩
theorem OwnI.to2 {w w1 : World} {B : Nat} {v : Value} {xs : List Int} (h : OwnI w B v xs) (hb : Below w.heap.size w w1) : OwnI w1 B v xs := h.below hb
/-- a list of numbers, new, is appended to an owned list of lists -/
theorem app_row {o : Oper} {a : Act} {W0 W : World} {K : Act → World → Prop} {Q : Exit → Act → World → Prop} (s x : Operand)
    (ho : o.op = .call { callee := .builtin .append, args := #[s, x], argTypes := #[26, 26] }) (B : Nat) (v : Value) (L : List (List Int)) (u : Value) (xs : List Int) (hs : a.eval s = v) (hown : OwnII W0 B v L)
    (hW : Below W0.heap.size W0 W) (hu : OwnI W W0.heap.size u xs)
    (b off : Nat) (hx : a.eval x = .slice (some ⟨b, off, none⟩) 1 1) (hc : W.cell? ⟨b, off, none⟩ = some u) (hl : L.length ≤ 1000000000000) (hB : B ≤ W0.heap.size)
    (h : ∀ v' w', OwnII w' B v' (L ++ [xs]) → W.grownBy w' v.ownBlock → (∀ k, v.ownBlock = some k → B ≤ k) → K (a.put o.dst v') w') : o.wp Try.prog a W K Q := by
  obtain ⟨vs, g1, g2, h3, h4⟩ := hown
  have h1 : W.ownsRow B 63 1 v L.length vs := World.ownsRow.kept (row := none) g1 ⟨hW.os, hW.tape, hW.output, hW.size, fun k hk _ => hW.block k hk⟩ (by cases h : v.ownBlock with | none => exact .inl rfl | some k => exact .inr (by simp))
  have h2 : ∀ i (h : i < vs.length) (h' : i < L.length), OwnI W B vs[i] L[i] := fun i h h' => (g2 i h h').below hW
  have hvl : vs.length = L.length := by have := h1.1; omega
  refine app_gen s x 26 63 (.slice none 0 0) 1 24 ho Try.underlying26 infoSl rfl (by decide) B v L.length vs hs h1 ⟨b, off, none⟩ 1 1 [u] hx rfl ?_ ?_ ?_ ?_ (Nat.le_trans hB hW.size) ?_
  · intro j z hj
    cases j with
    | zero => simp at hj; subst hj; simpa [Addr.add] using hc
    | succ j => simp at hj
  · intro z hz
    simp at hz; subst hz
    obtain ⟨A, cx, rfl, _⟩ := hu.shape
    rfl
  · simp [maxLen]; omega
  · omega
  · intro v' w' k1 k2 k3
    have hvb := World.ownsRow.lt h1
    have hub := World.ownsRow.lt hu
    have hvb0 : ∀ k, v.ownBlock = some k → k < W0.heap.size := fun k hk => (World.ownsRow.lt g1 k hk).2
    have huv : Apart u v := by
      cases eu : u.ownBlock with
      | none => exact .inl eu
      | some k =>
        right; rw [eu]; intro e
        have := (hub k eu).1
        have := hvb0 k e.symm
        omega
    refine h v' w' ⟨vs ++ [u], by rw [List.length_append]; exact k1, fun i hi hi' => ?_, fun i j hi hj hij => ?_, fun i hi => ?_⟩ k2 (fun k hk => (hvb k hk).1)
    · by_cases e : i < vs.length
      · have e' : i < L.length := by omega
        rw [List.getElem_append_left e, List.getElem_append_left e']
        exact (h2 i e e').grown k2 (h4 i e)
      · have ei : i = vs.length := by simp at hi; omega
        subst ei
        rw [List.getElem_append_right (Nat.le_refl _), List.getElem_append_right (by omega)]
        simp only [Nat.sub_self, List.getElem_cons_zero, hvl]
        exact (hu.weaken hB).grown k2 huv
    · have far : ∀ q (hq : q < vs.length), Apart vs[q] u := fun q hq => (own_apart (g2 q hq (by omega)) hu).1
      by_cases e : i < vs.length
      · by_cases e2 : j < vs.length
        · rw [List.getElem_append_left e, List.getElem_append_left e2]; exact h3 i j e e2 hij
        · rw [List.getElem_append_left e, List.getElem_append_right (by omega)]
          simp only [show j - vs.length = 0 by simp at hj; omega, List.getElem_cons_zero]
          exact far i e
      · have e2 : j < vs.length := by simp at hi hj; omega
        rw [List.getElem_append_left e2, List.getElem_append_right (by omega)]
        simp only [show i - vs.length = 0 by simp at hi; omega, List.getElem_cons_zero]
        exact (far j e2).symm
    · by_cases e : i < vs.length
      · rw [List.getElem_append_left e]
        exact ((h4 i e).symm.app (h2 i e (by omega)).blt k3).symm
      · rw [List.getElem_append_right (by omega)]
        simp only [show i - vs.length = 0 by simp at hi; omega, List.getElem_cons_zero]
        exact (huv.symm.app hu.blt k3).symm
/-- a number of a list of lists that the call owns: where it lies, and what a store into it makes -/
theorem OwnII.at2 {w : World} {B n cx : Nat} {A : Option Addr} {L : List (List Int)} (h : OwnII w B (.slice A n cx) L) (i : Nat) (hi : i < L.length) (j : Nat) (hj : j < L[i].length) :
    ∃ gv g cr, A = some ⟨gv, 0, none⟩ ∧ B ≤ gv ∧ gv < w.heap.size ∧ w.cell? ⟨gv, i, none⟩ = some (.slice (some ⟨g, 0, none⟩) L[i].length cr) ∧ B ≤ g ∧ g < w.heap.size ∧ w.cell? ⟨g, j, none⟩ = some (.int .i64 L[i][j]) ∧ w.frozen? ⟨g, j, none⟩ = false ∧
      ∀ y, OwnII (w.setCell ⟨g, j, none⟩ (.int .i64 y)) B (.slice A n cx) (L.set i (L[i].set j y)) := by
  obtain ⟨vs, h1, h2, h3, h4⟩ := h
  have hvl : vs.length = L.length := by have := h1.1; omega
  have hO := h2 i (by omega) hi
  obtain ⟨Ai, ci, ei, _⟩ := hO.shape
  have hO' : OwnI w B (.slice Ai L[i].length ci) L[i] := by rw [← ei]; exact hO
  obtain ⟨g, rfl, hg1, hg2, hc, hf⟩ := hO'.at_ j hj
  obtain ⟨gv, rfl, hgv1, hgv2⟩ : ∃ gv, A = some ⟨gv, 0, none⟩ ∧ B ≤ gv ∧ gv < w.heap.size := by
    rcases h1.2 with ⟨_, e0⟩ | ⟨gv, cap, cur, e1, e2, e3, _⟩
    · omega
    · injection e1 with a1 _ _
      exact ⟨gv, a1, e2, (Array.getElem?_eq_some_iff.1 e3).1⟩
  have hn : n = L.length := by
    rcases h1.2 with ⟨e0, _⟩ | ⟨gv', cap, cur, e1, _⟩
    · cases e0
    · injection e1
  subst hn
  refine ⟨gv, g, ci, rfl, hgv1, hgv2, ?_, hg1, hg2, hc, hf, fun y => ?_⟩
  · rw [World.ownsRow.cellAt h1 i (by omega), List.getElem?_eq_getElem (by omega), ei]
  · have hb : vs[i].ownBlock = some g := by rw [ei]; rfl
    have hgr := grownBy_store w g j (.int .i64 y)
    refine ⟨vs, ?_, fun k hk hk' => ?_, h3, h4⟩
    · rw [List.length_set]
      refine World.ownsRow.kept h1 hgr (.inr ?_)
      rcases h4 i (by omega) with e | e
      · rw [hb] at e; cases e
      · rw [hb] at e; exact fun e2 => e e2.symm
    · by_cases e : k = i
      · subst e
        have hs := (hO'.set j y).1
        rw [List.getElem_set_self]
        rw [← ei] at hs
        exact hs
      · rw [List.getElem_set_ne (fun e2 => e e2.symm)]
        refine World.ownsRow.kept (h2 k hk (by simpa using hk')) hgr ?_
        rcases h3 k i hk (by omega) e with e3 | e3
        · exact .inl e3
        · rw [hb] at e3; exact .inr e3

end Go.Proofs.Ytfkmophmiiehlaa
