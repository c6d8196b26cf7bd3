/- Contracts and lemmas for the statements of this seat, written for this claim; each theorem states its own conditions. -/
import Derived.Test.YtnoehaphbpkpjaaGreatFoY1
import Derived.Test.YtnoehaphbpkpjaaGreatFoL1
import Derived.Test.YtnoehaphbpkpjaaGreatFoF2
import Derived.Test.YtnoehaphbpkpjaaGreatFoI3
set_option linter.unusedVariables false
set_option linter.unusedSimpArgs false
namespace Go.Proofs.YtnoehaphbpkpjaaGreat
open Go.RowKit
theorem extract_size (s : ByteArray) (a b : Nat) (hb : b ≤ s.size) : (s.extract a b).size ≤ s.size := by
  rw [ByteArray.size_extract]
  omega
theorem spSt_parts (s : ByteArray) (c : UInt8) : ∀ k, k ≤ s.size → ∀ p ∈ (spSt s c k).1, p.size ≤ s.size
  | 0, _, p, hp => by simp [spSt] at hp
  | k + 1, hk, p, hp => by
    unfold spSt at hp
    split at hp
    · rcases List.mem_append.1 hp with hp | hp
      · exact spSt_parts s c k (by omega) p hp
      · have := List.mem_singleton.1 hp
        subst this
        exact extract_size s _ _ (by omega)
    · exact spSt_parts s c k (by omega) p hp
theorem splitV_parts (s : ByteArray) (c : UInt8) : ∀ p ∈ splitV s c, p.size ≤ s.size := fun p hp => by
  unfold splitV at hp
  rcases List.mem_append.1 hp with hp | hp
  · exact spSt_parts s c _ (Nat.le_refl _) p hp
  · have := List.mem_singleton.1 hp
    subst this
    exact extract_size s _ _ (Nat.le_refl _)
theorem splitV_len (s : ByteArray) (c : UInt8) : (splitV s c).length ≤ s.size + 1 := by
  unfold splitV
  have := (spSt_le s c s.size).2
  simp; omega
def tileB (s : ByteArray) : T4 := ⟨((bAt s 0).toNat : Int) - 48, ((bAt s 1).toNat : Int) - 48, ((bAt s 2).toNat : Int) - 48, ((bAt s 3).toNat : Int) - 48⟩
def partsB (s : ByteArray) : List ByteArray := if s.size = 0 then [] else splitV s 44
def readT (s : ByteArray) : Option (List T4) := if (partsB s).all (fun p => p.size == 4) then some ((partsB s).map tileB) else none
def readB (s : ByteArray) : Option (Int × List T4) :=
  match splitV s 58 with
  | [a, b] => match readT b with
    | some ts => if isSetB (numB a) ts = true then some (numB a, ts) else none
    | none => none
  | _ => none
def rdC (o : Option (Int × List T4)) : Int := match o with | some x => x.1 | none => 0
def rdT (o : Option (Int × List T4)) : List T4 := match o with | some x => x.2 | none => []
def RetSB (w : World) (o : Option (Int × List T4)) (e : Ending) (w' : World) : Prop :=
  ∃ A cx, e = .returned (.tuple #[.agg #[.int .i64 (rdC o), .slice A (rdT o).length cx], .bool o.isSome]) ∧ OwnT w' w.heap.size (.slice A (rdT o).length cx) (rdT o) ∧ Below w.heap.size w w'
theorem owns_apart {w : World} {B B' s s' n n' : Nat} {e e' : TypeId} {v v' : Value} {cs cs' : List Value} (h : w.ownsRow B e s v n cs) (h' : w.ownsRow B' e' s' v' n' cs') (hne : e ≠ e') : v.ownBlock = none ∨ v.ownBlock ≠ v'.ownBlock := by
  obtain ⟨_, ⟨rfl, _⟩ | ⟨g', cap', cur', rfl, _, e3', _⟩⟩ := h'
  · cases hv : v.ownBlock with
    | none => exact .inl rfl
    | some k => exact .inr (fun h => by cases h)
  · exact .inr (own_ne h (x := g') (cs := cur'.toList) (T := e') (by simpa [Blk] using e3') hne)
theorem OwnT.lower {w : World} {B B' : Nat} {v : Value} {ts : List T4} (h : OwnT w B v ts) (hB : B' ≤ B) : OwnT w B' v ts := by
  obtain ⟨h1, h2⟩ := h
  refine ⟨h1, ?_⟩
  rcases h2 with h2 | ⟨g, cap, cur, e1, e2, e3⟩
  · exact .inl h2
  · exact .inr ⟨g, cap, cur, e1, Nat.le_trans hB e2, e3⟩
theorem OwnS.lower {w : World} {B B' : Nat} {v : Value} {ts : List ByteArray} (h : OwnS w B v ts) (hB : B' ≤ B) : OwnS w B' v ts := by
  obtain ⟨h1, h2⟩ := h
  refine ⟨h1, ?_⟩
  rcases h2 with h2 | ⟨g, cap, cur, e1, e2, e3⟩
  · exact .inl h2
  · exact .inr ⟨g, cap, cur, e1, Nat.le_trans hB e2, e3⟩
theorem hw8 (x : UInt8) : IntKind.i64.wrap (IntKind.i64.wrap (x.toNat : Int) - 48) = (x.toNat : Int) - 48 := by
  have := x.toNat_lt
  generalize x.toNat = y at *
  rw [IntWalk.i64_in (y : Int) (by omega), IntWalk.i64_in _ (by omega)]
theorem isEmpty_size (b : ByteArray) : b.toList.isEmpty = decide (b.size = 0) := by
  rw [ByteArray.toList_eq, Bool.eq_iff_iff, List.isEmpty_iff_length_eq_zero, decide_eq_true_eq]
  exact Iff.rfl
/-- where the reading of a set stands: a struct in block g5 with the tiles so far, and the parts of the text -/
structure RdSt (w wr : World) (g5 : Nat) (na : Int) (ps : List ByteArray) (P : Value) (ts : List T4) (v : Value) : Prop where
  blk : Blk wr g5 [.int .i64 na, v] 32
  own : OwnT wr w.heap.size v ts
  prt : OwnS wr w.heap.size P ps
  sub : Below w.heap.size w wr
  lo : w.heap.size ≤ g5
theorem RdSt.below {w wr W : World} {g5 : Nat} {na : Int} {ps : List ByteArray} {P : Value} {ts : List T4} {v : Value} (h : RdSt w wr g5 na ps P ts v) (hb : Below wr.heap.size wr W) : RdSt w W g5 na ps P ts v :=
  ⟨h.blk.under hb, h.own.below hb, h.prt.below hb, h.sub.trans (hb.mono h.sub.size), h.lo⟩
theorem RdSt.app {w wr W w' : World} {g5 : Nat} {na : Int} {ps : List ByteArray} {P : Value} {ts ts' : List T4} {v v' : Value} (h : RdSt w wr g5 na ps P ts v) (hb : Below wr.heap.size wr W) (hg : W.grownBy w' v.ownBlock) (ho : OwnT w' w.heap.size v' ts') :
    Blk w' g5 [.int .i64 na, v] 32 ∧ RdSt w (w'.setCell ⟨g5, 1, none⟩ v') g5 na ps P ts' v' := by
  have h2 := h.below hb
  have hbk : Blk w' g5 [.int .i64 na, v] 32 := h2.blk.kept1 hg (own_ne h2.own h2.blk (by decide))
  refine ⟨hbk, hbk.set 1 v', ?_, ?_, (Below.grown h2.sub hg h2.sub.size (fun k hk => (World.ownsRow.lt h2.own k hk).1)).setCell h.lo _, h.lo⟩
  · exact World.ownsRow.kept (row := some g5) ho (grownBy_store _ _ _ _) (.inr (own_ne ho hbk (by decide)))
  · have hp : OwnS w' w.heap.size P ps := World.ownsRow.kept h2.prt hg (owns_apart h2.prt h2.own (by decide))
    exact World.ownsRow.kept (row := some g5) hp (grownBy_store _ _ _ _) (.inr (own_ne hp hbk (by decide)))
theorem RdSt.res {w wr : World} {g5 : Nat} {na : Int} {ps : List ByteArray} {P : Value} {ts : List T4} {v : Value} {o : Obj} (h : RdSt (w.alloc o) wr g5 na ps P ts v) : Below w.heap.size w wr := (below_al (Below.refl _ _)).trans (h.sub.mono (by simp))
set_option maxRecDepth 100000 in
set_option maxHeartbeats 1000000 in
theorem l01Read_c (s : ByteArray) (w : World) (hs : s.size ≤ 100000) :
    Calls Tryz.prog 139 #[.string s] w (RetSB w (readB s)) := by
  have HSP := Lib.hid (fun (s : ByteArray) (c : UInt8) (w : World) (hs : s.size ≤ 1000000) => l01Split_c s c w hs)
  have HP := Lib.hid (splitV_parts s 58)
  have HPL := Lib.hid (splitV_len s 58)
  by_cases h2 : (splitV s 58).length = 2
  · obtain ⟨a, b, hab⟩ : ∃ a b, splitV s 58 = [a, b] := by
      match splitV s 58, h2 with
      | [a, b], _ => exact ⟨a, b, rfl⟩
    have HVr : Hid (readB s = match readT b with | some ts => if isSetB (numB a) ts = true then some (numB a, ts) else none | none => none) := by
      show readB s = _
      unfold readB
      rw [hab]
    have hpa : a.size ≤ 100000 := Nat.le_trans (splitV_parts s 58 a (by rw [hab]; simp)) hs
    have hpb : b.size ≤ 100000 := Nat.le_trans (splitV_parts s 58 b (by rw [hab]; simp)) hs
    have Hab := Lib.hid hab
    have HNA := Lib.hid (fun w => l01Number_c a w (by omega))
    clear h2 hab
    generalize numB a = na at *
    go_enter Tryz.func139, Tryz.ntmps139
    go_wp2_with fail
    refine (HSP.out s 58 _ (by omega)).mono ?_
    rintro e w1 ⟨v, rfl, hO, hb⟩
    rw [Hab.out] at hO
    obtain ⟨A0, c0, rfl⟩ := hO.shape
    obtain ⟨g0, rfl, hg1, hg2, ca⟩ := hO.at_ 0 (by simp)
    obtain ⟨g1, e1, -, -, cb⟩ := hO.at_ 1 (by simp)
    injection e1 with e1
    injection e1 with e1
    subst e1
    simp only [List.getElem_cons_zero, List.getElem_cons_succ] at ca cb
    have HZ1 : Hid (Blk w1 w.heap.size [.int .i64 0, .slice none 0 0] 32) := (Blk.newA w _ _).under hb
    have HB1 : Hid (Below w.heap.size w w1) := (below_al (Below.refl _ _)).trans (hb.mono (by simp))
    have Hs1 : Hid (w.heap.size < w1.heap.size) := by have := hb.size; simp at this; exact this
    have Cb := Lib.hid (keepC cb)
    have HE := Lib.hid (isEmpty_size b)
    have Hw1 := Lib.hid hb
    clear hO hb
    go_wp2_with fail
    refine (HNA.out _).mono ?_
    rintro e w2 ⟨rfl, rfl⟩
    by_cases hb0 : b.size = 0
    · have hbe : b.toList.isEmpty = true := by rw [HE.out, decide_eq_true hb0]
      have HT : Hid (readT b = some []) := by show readT b = _; unfold readT partsB; rw [if_pos hb0]; rfl
      rw [HT.out] at HVr
      clear hb0 HE
      go_wp2_with fail
      obtain ⟨wX, hwX⟩ : ∃ wX, wX = ((w1.alloc (.cells #[] 30)).alloc (.cells #[.int .i64 na, .slice (some ⟨w1.heap.size, 0, none⟩) 0 0] 32)) := ⟨_, rfl⟩
      rw [← hwX]
      obtain ⟨ts, hts⟩ : ∃ ts : List T4, ts = [] := ⟨_, rfl⟩
      obtain ⟨cv, hcv⟩ : ∃ cv : Nat, cv = 0 := ⟨_, rfl⟩
      have HF : Hid (Blk wX (w1.heap.size + 1) [.int .i64 na, .slice (some ⟨w1.heap.size, 0, none⟩) ts.length cv] 32 ∧ OwnT wX (w.heap.size + 1) (.slice (some ⟨w1.heap.size, 0, none⟩) ts.length cv) ts ∧ Below (w.alloc (.cells #[.int .i64 0, .slice none 0 0] 32)).heap.size (w.alloc (.cells #[.int .i64 0, .slice none 0 0] 32)) wX) := by
        subst hts hcv
        rw [hwX]
        refine ⟨?_, (OwnT.empty w1 (w.heap.size + 1) Hs1.out).alloc _, below_al (below_al Hw1.out)⟩
        have := Blk.newA (w1.alloc (.cells #[] 30)) #[.int .i64 na, .slice (some ⟨w1.heap.size, 0, none⟩) 0 0] 32
        simpa using this
      have HVt : Hid (readB s = if isSetB na ts = true then some (na, ts) else none) := by rw [hts]; exact HVr.out
      have HLts : Hid (ts.length ≤ 1000000) := by rw [hts]; show (0 : Nat) ≤ _; omega
      have Hg5 : Hid (w.heap.size < w1.heap.size + 1) := by have := Hs1.out; show _ < _; omega
      rw [show (Value.slice (some ⟨w1.heap.size, 0, none⟩) 0 0) = .slice (some ⟨w1.heap.size, 0, none⟩) ts.length cv by rw [hts, hcv]; rfl]
      clear hwX hts hcv
      generalize w1.heap.size + 1 = g5 at *
      generalize (some ⟨w1.heap.size, 0, none⟩ : Option Addr) = Av at *
      obtain ⟨hF1, hF2, hF3⟩ := HF.out
      obtain ⟨A', c', eT, hT⟩ := hF2.tiles
      injection eT with eT1 eT2 eT3
      rw [← eT1] at hT
      clear eT1 eT2 eT3 A' c'
      have HI := Lib.hid (fun w h => l01Is_c na ts Av cv w h (Nat.le_trans HLts.out (by omega)))
      cases hI : isSetB na ts
      · rw [hI] at HI HVt
        have HV : Hid (readB s = none) := HVt.out
        refine (HI.out _ hT).mono ?_
        rintro e w3 ⟨rfl, hb3⟩
        have HZ : Hid (Blk w3 w.heap.size [.int .i64 0, .slice none 0 0] 32 ∧ Below w.heap.size w w3) := ⟨((Blk.newA w _ _).under hF3).under hb3, ((below_al (Below.refl _ _)).trans (hF3.mono (by simp))).trans (hb3.mono (by have := hF3.size; simp at this; omega))⟩
        clear hF1 hF2 hF3 hT hb3 hI
        obtain ⟨hq, hbel⟩ := HZ.out
        have Q := Lib.hid hq
        have y0 := hq.cell 0 (by simp)
        have y1 := hq.cell 1 (by simp)
        have g0 := hq.frozen 0
        have g1 := hq.frozen 1
        simp only [List.getElem_cons_zero, List.getElem_cons_succ] at y0 y1
        clear hq hbel
        go_wp2
        refine bodyPost_ret (v := .tuple #[.agg #[.int .i64 0, .slice none 0 0], .bool false]) (by
          have x0 := ((Q.out.set 0 (.int .i64 0)).set 1 (.slice none 0 0)).cell 0 (by simp)
          have x1 := ((Q.out.set 0 (.int .i64 0)).set 1 (.slice none 0 0)).cell 1 (by simp)
          simp only [List.set_cons_zero, List.set_cons_succ, List.getElem_cons_zero, List.getElem_cons_succ] at x0 x1
          simp [results, Tryz.results139, go_sem, x0, x1]) rfl ?_
        exact ⟨none, 0, by rw [HV.out]; rfl, by rw [HV.out]; exact World.ownsRow_nil _ _ _ _, by have := HZ.out.2; (repeat (first | (with_reducible exact Below.refl _ _) | (with_reducible assumption) | (with_reducible refine below_al ?_) | (with_reducible refine below_dr ?_) | (with_reducible refine below_drN ?_) | (with_reducible refine below_set ?_ (by first | exact Nat.le_refl _ | (dsimp only; omega) | omega)) | (with_reducible refine below_tr (by with_reducible assumption) ?_)))⟩
      · rw [hI] at HI HVt
        have HV : Hid (readB s = some (na, ts)) := HVt.out
        refine (HI.out _ hT).mono ?_
        rintro e w3 ⟨rfl, hb3⟩
        have Z5 := Lib.hid (hF1.under hb3)
        have ZO := Lib.hid (hF2.below hb3)
        have ZB := Lib.hid (((Blk.newA w #[.int .i64 0, .slice none 0 0] 32).under hF3).under hb3)
        have ZS : Hid (Below w.heap.size w w3) := ((below_al (Below.refl _ _)).trans (hF3.mono (by simp))).trans (hb3.mono (by have := hF3.size; simp at this; omega))
        clear hF1 hF2 hF3 hT hb3 hI
        have e0 := Z5.out.cell 0 (by simp)
        have e1 := Z5.out.cell 1 (by simp)
        simp only [List.getElem_cons_zero, List.getElem_cons_succ] at e0 e1
        have y0 := ZB.out.cell 0 (by simp)
        have y1 := ZB.out.cell 1 (by simp)
        have g0 := ZB.out.frozen 0
        have g1 := ZB.out.frozen 1
        simp only [List.getElem_cons_zero, List.getElem_cons_succ] at y0 y1
        have hne : w.heap.size ≠ g5 := by have := Hg5.out; omega
        go_wp2
        refine bodyPost_ret (v := .tuple #[.agg #[.int .i64 na, .slice Av ts.length cv], .bool true]) (by
          have x0 := ((ZB.out.set 0 (.int .i64 na)).set 1 (.slice Av ts.length cv)).cell 0 (by simp)
          have x1 := ((ZB.out.set 0 (.int .i64 na)).set 1 (.slice Av ts.length cv)).cell 1 (by simp)
          simp only [List.set_cons_zero, List.set_cons_succ, List.getElem_cons_zero, List.getElem_cons_succ] at x0 x1
          simp [results, Tryz.results139, go_sem, x0, x1]) rfl ?_
        have hZS := ZS.out
        exact ⟨Av, cv, by rw [HV.out]; rfl, by rw [HV.out]; exact OwnT.lower ((ZO.out.other w.heap.size 0 (by omega) _).other w.heap.size 1 (by omega) _) (by omega), by (repeat (first | (with_reducible exact Below.refl _ _) | (with_reducible assumption) | (with_reducible refine below_al ?_) | (with_reducible refine below_dr ?_) | (with_reducible refine below_drN ?_) | (with_reducible refine below_set ?_ (by first | exact Nat.le_refl _ | (dsimp only; omega) | omega)) | (with_reducible refine below_tr (by with_reducible assumption) ?_)))⟩
    · have hbe : b.toList.isEmpty = false := by rw [HE.out, decide_eq_false hb0]
      have HT : Hid (readT b = if (splitV b 44).all (fun p => p.size == 4) then some ((splitV b 44).map tileB) else none) := by show readT b = _; unfold readT partsB; rw [if_neg hb0]
      have HPp := Lib.hid (splitV_parts b 44)
      have HPl := Lib.hid (splitV_len b 44)
      clear hb0 HE
      go_wp2_with fail
      have HF0 : Hid (RdSt (w.alloc (.cells #[.int .i64 0, .slice none 0 0] 32)) ((w1.alloc (.cells #[] 30)).alloc (.cells #[.int .i64 na, .slice (some ⟨w1.heap.size, 0, none⟩) 0 0] 32)) (w1.heap.size + 1) na [] (.slice none 0 0) [] (.slice (some ⟨w1.heap.size, 0, none⟩) 0 0)) := by
        refine ⟨?_, (OwnT.empty w1 _ (by have := Hs1.out; simp; omega)).alloc _, World.ownsRow_nil _ _ _ _, below_al (below_al Hw1.out), by have := Hs1.out; simp; omega⟩
        have := Blk.newA (w1.alloc (.cells #[] 30)) #[.int .i64 na, .slice (some ⟨w1.heap.size, 0, none⟩) 0 0] 32
        simpa using this
      refine (HSP.out b 44 _ (by omega)).mono ?_
      rintro e w3 ⟨v, rfl, hO, hb⟩
      generalize splitV b 44 = ps at *
      obtain ⟨AP, cP, rfl⟩ := hO.shape
      have HQ : Hid (RdSt (w.alloc (.cells #[.int .i64 0, .slice none 0 0] 32)) w3 (w1.heap.size + 1) na ps (.slice AP ps.length cP) [] (.slice (some ⟨w1.heap.size, 0, none⟩) 0 0)) := by
        have := HF0.out.below hb
        refine ⟨this.blk, this.own, ?_, this.sub, this.lo⟩
        exact hO.lower (by have := Hs1.out; simp; omega)
      have Hg5 : Hid (w.heap.size < w1.heap.size + 1) := by have := Hs1.out; show _ < _; omega
      have HL5 : Hid (ps.length ≤ 200000) := by have := HPl.out; show _ ≤ _; omega
      clear hO hb HF0
      generalize w1.heap.size + 1 = g5 at *
      generalize (some ⟨w1.heap.size, 0, none⟩ : Option Addr) = Av0 at *
      go_wp2_with fail
      go_loopw [7] (fun i wr => ∃ k ts v, k ≤ ps.length ∧ i = .int .i64 (k : Nat) ∧ Hid (RdSt (w.alloc (.cells #[.int .i64 0, .slice none 0 0] 32)) wr g5 na ps (.slice AP ps.length cP) ts v) ∧ Hid (ts = (ps.take k).map tileB) ∧ Hid (∀ p ∈ ps.take k, p.size = 4)) (fun i _ => ps.length - (intOf i).toNat)
      case atStart => exact ⟨0, [], _, by omega, rfl, HQ, by show [] = _; simp, fun p hp => by simp at hp⟩
      case round =>
        clear HQ
        obtain ⟨k, ts, v, hk, rfl, HQ, HTS, HA⟩ := hrel
        by_cases hkl : k < ps.length
        · obtain ⟨gP, rfl, hP1, hP2, cp⟩ := HQ.out.prt.at_ k hkl
          by_cases h4 : ps[k].size = 4
          · have h4' : ((ps[k].size : Int) != 4) = false := by rw [h4]; rfl
            have HK := Lib.hid (show ps.take (k + 1) = ps.take k ++ [ps[k]] by rw [List.take_succ_eq_append_getElem hkl])
            generalize ps[k] = p at *
            have hq0 : 0 < p.size := by omega
            have hq1 : 1 < p.size := by omega
            have hq2 : 2 < p.size := by omega
            have hq3 : 3 < p.size := by omega
            have HT4 : Hid (tileB p = ⟨IntKind.i64.wrap (IntKind.i64.wrap (p[0].toNat : Int) - 48), IntKind.i64.wrap (IntKind.i64.wrap (p[1].toNat : Int) - 48), IntKind.i64.wrap (IntKind.i64.wrap (p[2].toNat : Int) - 48), IntKind.i64.wrap (IntKind.i64.wrap (p[3].toNat : Int) - 48)⟩) := by show _ = _; unfold tileB; rw [← bAt_eq p 0 hq0, ← bAt_eq p 1 hq1, ← bAt_eq p 2 hq2, ← bAt_eq p 3 hq3, hw8, hw8, hw8, hw8]
            have HLT : Hid (ts.length ≤ 1000000) := by show _ ≤ _; rw [HTS.out, List.length_map, List.length_take]; have := HL5.out; omega
            have HA2 : Hid (∀ q ∈ ps.take (k + 1), q.size = 4) := fun q hq => by
              rw [HK.out] at hq
              rcases List.mem_append.1 hq with hq | hq
              · exact HA.out q hq
              · have := List.mem_singleton.1 hq; subst this; exact h4
            have HTS2 : Hid (ts ++ [tileB p] = (ps.take (k + 1)).map tileB) := by show _ = _; rw [HK.out, List.map_append, ← HTS.out]; rfl
            obtain ⟨Av, cv, rfl, -⟩ := HQ.out.own.tiles
            have hz1 : (1 : Int) < (p.size : Int) := by omega
            have hz2 : (2 : Int) < (p.size : Int) := by omega
            have hz3 : (3 : Int) < (p.size : Int) := by omega
            clear h4
            go_wp2_with fail
            refine wp_region_plan (.det 0 (.det 2 (.det 3 (.det 4 (.det 5 (.det 6 (.det 7 (.det 8 (.det 9 (.det 10 (.det 11 (.det 12 (.det 13 (.det 14 (.det 15 (.det 16 (.det 17 (.det 18 (.two 1 (.one 19 (.one 20 (.one 21 (.one 22 (.done))))) 19 (.one 1 (.one 20 (.one 21 (.one 22 (.done)))))))))))))))))))))))) (fun w' => True) (fun a a' w' => ∃ x0 x1 x2 x3 x4 x5 x6 x7 x8 x9 x10 x11 x12 x13 x14 x15 x16 x17 x18 x19 x20 x21, a' = ((((((((((((((((((((((a.put (some 43) x0).put (some 44) x1).put (some 45) x2).put (some 46) x3).put (some 47) x4).put (some 48) x5).put (some 49) x6).put (some 50) x7).put (some 51) x8).put (some 52) x9).put (some 53) x10).put (some 54) x11).put (some 55) x12).put (some 56) x13).put (some 57) x14).put (some 58) x15).put (some 59) x16).put (some 60) x17).put (some 61) x18).put (some 62) x19).put (some 63) x20).put (some 64) x21) ∧ ∃ A' c', Hid (RdSt (w.alloc (.cells #[.int .i64 0, .slice none 0 0] 32)) w' g5 na ps (.slice (some ⟨gP, 0, none⟩) ps.length cP) (ts ++ [tileB p]) (.slice A' (ts ++ [tileB p]).length c'))) (by kernel_rfl) (by kernel_rfl) (fun _ _ d _ _ h => by cases d <;> exact h) (trivial) ?_ ?_
            rotate_left
            · rintro a' wa hba ⟨x0, x1, x2, x3, x4, x5, x6, x7, x8, x9, x10, x11, x12, x13, x14, x15, x16, x17, x18, x19, x20, x21, rfl, hP⟩
              obtain ⟨A', c', H5⟩ := hP
              clear hba cp
              have hk5 : k < 200000 := by have := HL5.out; omega
              go_simp
              go_wp2_with fail
              go_roundw
              case rel => exact ⟨k + 1, _, _, by omega, by go_num, H5, HTS2, HA2⟩
              case measure => simp [intOf]; omega
            repeat (first
              | (refine plan_skip rfl rfl (fun K' hK' => ?_); go_simp; refine hK' _ ?_; clear hK' K')
              | (refine plan_do (v := ?_) rfl rfl (fun w1 hb => ?_) (fun K' hK' => ?_); rotate_left
                 · go_simp
                   rfl
                 go_simp; refine hK' _ ?_; clear hK' K'))
            generalize hwd : ({ wr with drawn := wr.drawn + 1 } : World) = wd
            have HQd : Hid (RdSt (w.alloc (.cells #[.int .i64 0, .slice none 0 0] 32)) wd g5 na ps (.slice (some ⟨gP, 0, none⟩) ps.length cP) ts (.slice Av ts.length cv)) := by rw [← hwd]; exact HQ.out.below (Below.refl _ _).drew
            clear hwd
            generalize IntKind.i64.wrap (IntKind.i64.wrap (p[0].toNat : Int) - 48) = c0' at *
            generalize IntKind.i64.wrap (IntKind.i64.wrap (p[1].toNat : Int) - 48) = c1' at *
            generalize IntKind.i64.wrap (IntKind.i64.wrap (p[2].toNat : Int) - 48) = c2' at *
            generalize IntKind.i64.wrap (IntKind.i64.wrap (p[3].toNat : Int) - 48) = c3' at *
            have y1 := HQd.out.blk.cell 1 (by simp)
            simp only [List.getElem_cons_zero, List.getElem_cons_succ] at y1
            have HBd := Lib.hid (below_al (o := .cells #[.int .i64 c0', .int .i64 c1', .int .i64 c2', .int .i64 c3'] 30) (Below.refl wd.heap.size wd))
            have y2 := keepC y1 _ HBd.out
            have HNw := Lib.hid (OwnT.one wd (tileB p) (B := wd.heap.size) (Nat.le_refl _))
            rw [HT4.out] at HNw
            dsimp only at HNw
            obtain ⟨wb, hwb⟩ : ∃ wb, wb = wd.alloc (.cells #[.int .i64 c0', .int .i64 c1', .int .i64 c2', .int .i64 c3'] 30) := ⟨_, rfl⟩
            rw [← hwb] at y2 HNw HBd
            refine plan_two ?_ ?_
            · refine step_op rfl rfl (fun K' hK' => ?_)
              go_simp
              refine hK' _ _ (trivial) ?_; clear hK' K'
              refine plan_one (step_op rfl rfl (fun K' hK' => ?_))
              go_simp
              rw [← hwb]
              clear hwb
              refine hK' _ _ (trivial) ?_; clear hK' K'
              refine plan_one (step_op rfl rfl (fun K' hK' => ?_))
              refine app_tiles (.tmp 44) (.tmp 62) rfl _ _ ts [tileB p] rfl (HQd.out.own.below HBd.out) ⟨wd.heap.size, 0, none⟩ 1 rfl (fun j u hj => HNw.out.all j u (by rw [← HT4.out]; exact hj)) (by have := HLT.out; simp; omega) (by have := HQd.out.sub.size; have := HBd.out.size; simp at *; omega) (fun v' w' a1 a2 a3 => ?_)
              obtain ⟨h3, h5⟩ := HQd.out.app HBd.out a2 a1
              have H5 := Lib.hid h5
              obtain ⟨A', c', rfl, -⟩ := a1.tiles
              have z1 := h3.frozen 1
              have q1 := h3.cell 1 (by simp)
              simp only [List.getElem_cons_zero, List.getElem_cons_succ] at q1
              clear a1 a2 a3 h3 h5 y1 y2 cp
              refine hK' _ _ (trivial) ?_; clear hK' K'
              refine plan_one (step_op rfl rfl (fun K' hK' => ?_))
              go_simp
              refine hK' _ _ (trivial) ?_; clear hK' K'
              refine plan_one (step_op rfl rfl (fun K' hK' => ?_))
              go_simp
              refine hK' _ _ (trivial) ?_; clear hK' K'
              refine plan_done ⟨?_, ?_, ?_, ?_, ?_, ?_, ?_, ?_, ?_, ?_, ?_, ?_, ?_, ?_, ?_, ?_, ?_, ?_, ?_, ?_, ?_, ?_, ?_, ?_⟩
              rotate_left 22
              · go_simp; (first | rfl | (and_intros <;> rfl))
              · exact ⟨A', c', by have h5 := H5.out; rw [show (ts ++ [tileB p]).length = ts.length + 1 by simp] at h5 ⊢; exact h5⟩
            · refine step_op rfl rfl (fun K' hK' => ?_)
              go_simp
              rw [← hwb]
              clear hwb
              refine hK' _ _ (trivial) ?_; clear hK' K'
              refine plan_one (step_op rfl rfl (fun K' hK' => ?_))
              go_simp
              refine hK' _ _ (trivial) ?_; clear hK' K'
              refine plan_one (step_op rfl rfl (fun K' hK' => ?_))
              refine app_tiles (.tmp 44) (.tmp 62) rfl _ _ ts [tileB p] rfl (HQd.out.own.below HBd.out) ⟨wd.heap.size, 0, none⟩ 1 rfl (fun j u hj => HNw.out.all j u (by rw [← HT4.out]; exact hj)) (by have := HLT.out; simp; omega) (by have := HQd.out.sub.size; have := HBd.out.size; simp at *; omega) (fun v' w' a1 a2 a3 => ?_)
              obtain ⟨h3, h5⟩ := HQd.out.app HBd.out a2 a1
              have H5 := Lib.hid h5
              obtain ⟨A', c', rfl, -⟩ := a1.tiles
              have z1 := h3.frozen 1
              have q1 := h3.cell 1 (by simp)
              simp only [List.getElem_cons_zero, List.getElem_cons_succ] at q1
              clear a1 a2 a3 h3 h5 y1 y2 cp
              refine hK' _ _ (trivial) ?_; clear hK' K'
              refine plan_one (step_op rfl rfl (fun K' hK' => ?_))
              go_simp
              refine hK' _ _ (trivial) ?_; clear hK' K'
              refine plan_one (step_op rfl rfl (fun K' hK' => ?_))
              go_simp
              refine hK' _ _ (trivial) ?_; clear hK' K'
              refine plan_done ⟨?_, ?_, ?_, ?_, ?_, ?_, ?_, ?_, ?_, ?_, ?_, ?_, ?_, ?_, ?_, ?_, ?_, ?_, ?_, ?_, ?_, ?_, ?_, ?_⟩
              rotate_left 22
              · go_simp; (first | rfl | (and_intros <;> rfl))
              · exact ⟨A', c', by have h5 := H5.out; rw [show (ts ++ [tileB p]).length = ts.length + 1 by simp] at h5 ⊢; exact h5⟩
          · have h4' : ((ps[k].size : Int) != 4) = true := by rw [bne_iff_ne]; omega
            have HV : Hid (readB s = none) := by
              show readB s = none
              rw [HVr.out, HT.out, if_neg]
              rw [List.all_eq_true]
              intro h
              have := h _ (List.getElem_mem hkl)
              rw [beq_iff_eq] at this
              exact h4 this
            have HZ : Hid (Blk wr w.heap.size [.int .i64 0, .slice none 0 0] 32 ∧ Below w.heap.size w wr) := ⟨(Blk.newA w _ _).under HQ.out.sub, HQ.out.res⟩
            clear h4
            obtain ⟨hq, hbel⟩ := HZ.out
            have Q := Lib.hid hq
            have y0 := hq.cell 0 (by simp)
            have y1 := hq.cell 1 (by simp)
            have g0 := hq.frozen 0
            have g1 := hq.frozen 1
            simp only [List.getElem_cons_zero, List.getElem_cons_succ] at y0 y1
            clear hq hbel
            go_wp2
            refine bodyPost_ret (v := .tuple #[.agg #[.int .i64 0, .slice none 0 0], .bool false]) (by
              have x0 := ((Q.out.set 0 (.int .i64 0)).set 1 (.slice none 0 0)).cell 0 (by simp)
              have x1 := ((Q.out.set 0 (.int .i64 0)).set 1 (.slice none 0 0)).cell 1 (by simp)
              simp only [List.set_cons_zero, List.set_cons_succ, List.getElem_cons_zero, List.getElem_cons_succ] at x0 x1
              simp [results, Tryz.results139, go_sem, x0, x1]) rfl ?_
            exact ⟨none, 0, by rw [HV.out]; rfl, by rw [HV.out]; exact World.ownsRow_nil _ _ _ _, by have := HZ.out.2; (repeat (first | (with_reducible exact Below.refl _ _) | (with_reducible assumption) | (with_reducible refine below_al ?_) | (with_reducible refine below_dr ?_) | (with_reducible refine below_drN ?_) | (with_reducible refine below_set ?_ (by first | exact Nat.le_refl _ | (dsimp only; omega) | omega)) | (with_reducible refine below_tr (by with_reducible assumption) ?_)))⟩
        · obtain rfl : k = ps.length := by omega
          rw [List.take_length] at HTS HA
          have HVt : Hid (readB s = if isSetB na ts = true then some (na, ts) else none) := by
            show readB s = _
            rw [HVr.out, HT.out, if_pos (by rw [List.all_eq_true]; intro p hp; rw [beq_iff_eq]; exact HA.out p hp), ← HTS.out]
          have HLts : Hid (ts.length ≤ 1000000) := by show _ ≤ _; rw [HTS.out, List.length_map]; have := HL5.out; omega
          obtain ⟨Av, cv, rfl, -⟩ := HQ.out.own.tiles
          have HF : Hid (Blk wr g5 [.int .i64 na, .slice Av ts.length cv] 32 ∧ OwnT wr (w.heap.size + 1) (.slice Av ts.length cv) ts ∧ Below (w.alloc (.cells #[.int .i64 0, .slice none 0 0] 32)).heap.size (w.alloc (.cells #[.int .i64 0, .slice none 0 0] 32)) wr) := by
            have h1 := HQ.out.own
            rw [World.size_alloc] at h1
            exact ⟨HQ.out.blk, h1, HQ.out.sub⟩
          have r0 := HQ.out.blk.cell 0 (by simp)
          have r1 := HQ.out.blk.cell 1 (by simp)
          simp only [List.getElem_cons_zero, List.getElem_cons_succ] at r0 r1
          clear HTS HA HQ
          go_wp2_with fail
          clear r0 r1
          obtain ⟨hF1, hF2, hF3⟩ := HF.out
          obtain ⟨A', c', eT, hT⟩ := hF2.tiles
          injection eT with eT1 eT2 eT3
          rw [← eT1] at hT
          clear eT1 eT2 eT3 A' c'
          have HI := Lib.hid (fun w h => l01Is_c na ts Av cv w h (Nat.le_trans HLts.out (by omega)))
          cases hI : isSetB na ts
          · rw [hI] at HI HVt
            have HV : Hid (readB s = none) := HVt.out
            refine (HI.out _ hT).mono ?_
            rintro e w3 ⟨rfl, hb3⟩
            have HZ : Hid (Blk w3 w.heap.size [.int .i64 0, .slice none 0 0] 32 ∧ Below w.heap.size w w3) := ⟨((Blk.newA w _ _).under hF3).under hb3, ((below_al (Below.refl _ _)).trans (hF3.mono (by simp))).trans (hb3.mono (by have := hF3.size; simp at this; omega))⟩
            clear hF1 hF2 hF3 hT hb3 hI
            obtain ⟨hq, hbel⟩ := HZ.out
            have Q := Lib.hid hq
            have y0 := hq.cell 0 (by simp)
            have y1 := hq.cell 1 (by simp)
            have g0 := hq.frozen 0
            have g1 := hq.frozen 1
            simp only [List.getElem_cons_zero, List.getElem_cons_succ] at y0 y1
            clear hq hbel
            go_wp2
            refine bodyPost_ret (v := .tuple #[.agg #[.int .i64 0, .slice none 0 0], .bool false]) (by
              have x0 := ((Q.out.set 0 (.int .i64 0)).set 1 (.slice none 0 0)).cell 0 (by simp)
              have x1 := ((Q.out.set 0 (.int .i64 0)).set 1 (.slice none 0 0)).cell 1 (by simp)
              simp only [List.set_cons_zero, List.set_cons_succ, List.getElem_cons_zero, List.getElem_cons_succ] at x0 x1
              simp [results, Tryz.results139, go_sem, x0, x1]) rfl ?_
            exact ⟨none, 0, by rw [HV.out]; rfl, by rw [HV.out]; exact World.ownsRow_nil _ _ _ _, by have := HZ.out.2; (repeat (first | (with_reducible exact Below.refl _ _) | (with_reducible assumption) | (with_reducible refine below_al ?_) | (with_reducible refine below_dr ?_) | (with_reducible refine below_drN ?_) | (with_reducible refine below_set ?_ (by first | exact Nat.le_refl _ | (dsimp only; omega) | omega)) | (with_reducible refine below_tr (by with_reducible assumption) ?_)))⟩
          · rw [hI] at HI HVt
            have HV : Hid (readB s = some (na, ts)) := HVt.out
            refine (HI.out _ hT).mono ?_
            rintro e w3 ⟨rfl, hb3⟩
            have Z5 := Lib.hid (hF1.under hb3)
            have ZO := Lib.hid (hF2.below hb3)
            have ZB := Lib.hid (((Blk.newA w #[.int .i64 0, .slice none 0 0] 32).under hF3).under hb3)
            have ZS : Hid (Below w.heap.size w w3) := ((below_al (Below.refl _ _)).trans (hF3.mono (by simp))).trans (hb3.mono (by have := hF3.size; simp at this; omega))
            clear hF1 hF2 hF3 hT hb3 hI
            have e0 := Z5.out.cell 0 (by simp)
            have e1 := Z5.out.cell 1 (by simp)
            simp only [List.getElem_cons_zero, List.getElem_cons_succ] at e0 e1
            have y0 := ZB.out.cell 0 (by simp)
            have y1 := ZB.out.cell 1 (by simp)
            have g0 := ZB.out.frozen 0
            have g1 := ZB.out.frozen 1
            simp only [List.getElem_cons_zero, List.getElem_cons_succ] at y0 y1
            have hne : w.heap.size ≠ g5 := by have := Hg5.out; omega
            go_wp2
            refine bodyPost_ret (v := .tuple #[.agg #[.int .i64 na, .slice Av ts.length cv], .bool true]) (by
              have x0 := ((ZB.out.set 0 (.int .i64 na)).set 1 (.slice Av ts.length cv)).cell 0 (by simp)
              have x1 := ((ZB.out.set 0 (.int .i64 na)).set 1 (.slice Av ts.length cv)).cell 1 (by simp)
              simp only [List.set_cons_zero, List.set_cons_succ, List.getElem_cons_zero, List.getElem_cons_succ] at x0 x1
              simp [results, Tryz.results139, go_sem, x0, x1]) rfl ?_
            have hZS := ZS.out
            exact ⟨Av, cv, by rw [HV.out]; rfl, by rw [HV.out]; exact OwnT.lower ((ZO.out.other w.heap.size 0 (by omega) _).other w.heap.size 1 (by omega) _) (by omega), by (repeat (first | (with_reducible exact Below.refl _ _) | (with_reducible assumption) | (with_reducible refine below_al ?_) | (with_reducible refine below_dr ?_) | (with_reducible refine below_drN ?_) | (with_reducible refine below_set ?_ (by first | exact Nat.le_refl _ | (dsimp only; omega) | omega)) | (with_reducible refine below_tr (by with_reducible assumption) ?_)))⟩
  · have HV : Hid (readB s = none) := by
      show readB s = none
      unfold readB
      split
      · rename_i a b h; rw [h] at h2; simp at h2
      · rfl
    have h2' : (((splitV s 58).length : Int) != 2) = true := by simp; omega
    go_enter Tryz.func139, Tryz.ntmps139
    go_wp2_with fail
    refine (HSP.out s 58 _ (by omega)).mono ?_
    rintro e w1 ⟨v, rfl, hO, hb⟩
    obtain ⟨A0, c0, rfl⟩ := hO.shape
    have HZ : Hid (Blk w1 w.heap.size [.int .i64 0, .slice none 0 0] 32 ∧ Below w.heap.size w w1) := ⟨(Blk.newA w _ _).under hb, (below_al (Below.refl _ _)).trans (hb.mono (by simp))⟩
    clear hO hb
    obtain ⟨hq, hbel⟩ := HZ.out
    have Q := Lib.hid hq
    have y0 := hq.cell 0 (by simp)
    have y1 := hq.cell 1 (by simp)
    have g0 := hq.frozen 0
    have g1 := hq.frozen 1
    simp only [List.getElem_cons_zero, List.getElem_cons_succ] at y0 y1
    clear hq hbel
    go_wp2
    refine bodyPost_ret (v := .tuple #[.agg #[.int .i64 0, .slice none 0 0], .bool false]) (by
      have x0 := ((Q.out.set 0 (.int .i64 0)).set 1 (.slice none 0 0)).cell 0 (by simp)
      have x1 := ((Q.out.set 0 (.int .i64 0)).set 1 (.slice none 0 0)).cell 1 (by simp)
      simp only [List.set_cons_zero, List.set_cons_succ, List.getElem_cons_zero, List.getElem_cons_succ] at x0 x1
      simp [results, Tryz.results139, go_sem, x0, x1]) rfl ?_
    exact ⟨none, 0, by rw [HV.out]; rfl, by rw [HV.out]; exact World.ownsRow_nil _ _ _ _, by have := HZ.out.2; (repeat (first | (with_reducible exact Below.refl _ _) | (with_reducible assumption) | (with_reducible refine below_al ?_) | (with_reducible refine below_dr ?_) | (with_reducible refine below_drN ?_) | (with_reducible refine below_set ?_ (by first | exact Nat.le_refl _ | (dsimp only; omega) | omega)) | (with_reducible refine below_tr (by with_reducible assumption) ?_)))⟩

end Go.Proofs.YtnoehaphbpkpjaaGreat
