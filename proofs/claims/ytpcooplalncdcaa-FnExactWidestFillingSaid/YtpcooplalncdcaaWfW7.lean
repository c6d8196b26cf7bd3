/- Contracts and lemmas for the statements of this seat, written for this claim; each theorem states its own conditions. -/
import Derived.Test.YtpcooplalncdcaaWfW6
set_option linter.unusedVariables false
set_option linter.unusedSimpArgs false
namespace Go.Proofs.Ytpcooplalncdcaa
open Go.RowKit
theorem endL_more {S : Nat} {cols : List Col} (hC : Codes S cols) (f t : Bool) : ∀ (d m : Nat), (endL S cols f t (m + d)).contains true = true → (endL S cols f t m).contains true = true
  | 0, m, h => h
  | d + 1, m, h => by
    refine endL_more hC f t d m ?_
    rw [List.contains_iff_mem, List.mem_iff_getElem] at h ⊢
    obtain ⟨i, hi, e⟩ := h
    rw [endL_len] at hi
    have := endL_less hC f t (m + d) i hi (by rw [show m + d + 1 = m + (d + 1) from rfl, List.getD_eq_getElem?_getD, List.getElem?_eq_getElem (by rw [endL_len]; exact hi)]; exact e)
    refine ⟨i, by rw [endL_len]; exact hi, ?_⟩
    simpa [endL_len, hi] using this
/-- where a way ends, there is a first number of columns that ends it -/
theorem endL_first {S : Nat} {cols : List Col} {L : Nat} (h : (endL S cols true false (L + 1)).contains true = false) : ∃ q, q ≤ L ∧ (∀ i, i < q → (endL S cols true false (i + 1)).contains true = true) ∧ (endL S cols true false (q + 1)).contains true = false := by
  obtain ⟨q, hq, hmin⟩ := exists_least (p := fun q => (endL S cols true false (q + 1)).contains true = false) ⟨L, h⟩
  refine ⟨q, hmin L h, fun i hi => ?_, hq⟩
  cases h3 : (endL S cols true false (i + 1)).contains true
  · have := hmin i h3; omega
  · rfl
theorem fr_bel {bn : Nat} {w0 w w' : World} (h : Below w0.heap.size w0 w) (hF : Fr (· = bn) w w') (hbn : w0.heap.size ≤ bn) : Below w0.heap.size w0 w' :=
  h.trans (hF.under h.size fun k hk => by have hk : k = bn := hk; omega)
set_option maxRecDepth 100000 in
set_option maxHeartbeats 1000000 in
theorem implWidest_c (c : Int) (ts : List T4) (A : Option Addr) (cx : Nat) (h : Int) (w : World) (hT : TileCells w A ts) (hl : ts.length ≤ 1000000000) :
    Calls Try.prog 17 #[.agg #[.int .i64 c, .slice A ts.length cx], .int .i64 h] w fun e w' => e = .returned (.tuple #[.int .i64 (wfVal c ts h), .int .i64 (wfCode c ts h)]) ∧ Below w.heap.size w w' := by
  have HC := Lib.hid (fun (wq : World) (hwq : Below w.heap.size w wq) => traceStrip_c c ts A cx h 40 #[] true wq (fun _ _ => rfl) (hT.below hwq) hl (fun hs w1 hb => always_c w1))
  have hv : wfVal c ts h = if tsCode c ts h true = 0 then (((wfN (powC c h.toNat).toNat (lev c ts h.toNat)).getD 0 : Nat) : Int) else 0 := rfl
  have hv2 : wfCode c ts h = if tsCode c ts h true = 0 then (if (wfN (powC c h.toNat).toNat (lev c ts h.toNat)).isSome = true then 0 else 4) else tsCode c ts h true := rfl
  have hz := Lib.hid (tsCode_zero (c := c) (ts := ts) (h := h) (fine := true))
  clear hT
  generalize hcode : tsCode c ts h true = code at *
  go_enter Try.func17, Try.ntmps17
  go_wp2_with fail
  refine (HC.out _ (by (repeat (first | (with_reducible exact Below.refl _ _) | (with_reducible assumption) | (with_reducible refine below_al ?_) | (with_reducible refine below_dr ?_) | (with_reducible refine below_drN ?_) | (with_reducible refine below_set ?_ (by first | exact Nat.le_refl _ | (dsimp only; omega) | omega)) | (with_reducible refine below_tr (by with_reducible assumption) ?_))))).mono ?_
  rintro e w1 ⟨hb1, ⟨hne, rfl⟩ | ⟨h0, g, hn, rfl, rfl, hg, hS⟩⟩
  · rw [hcode] at hne ⊢
    rw [if_neg hne] at hv hv2
    have Hw1 : Hid (Below w.heap.size w w1) := by (show Below _ _ _); (repeat (first | (with_reducible exact Below.refl _ _) | (with_reducible assumption) | (with_reducible refine below_al ?_) | (with_reducible refine below_dr ?_) | (with_reducible refine below_drN ?_) | (with_reducible refine below_set ?_ (by first | exact Nat.le_refl _ | (dsimp only; omega) | omega)) | (with_reducible refine below_tr (by with_reducible assumption) ?_)))
    have hcz : (code != 0) = true := by simp [hne]
    have HV := Lib.hid hv
    have HV2 := Lib.hid hv2
    clear hb1 hne hcode hv hv2
    unfold stripEnd
    go_wp2
    go_ret2
    exact ⟨by rw [HV.out, HV2.out]; rfl, Hw1.out⟩
  · obtain rfl : code = 0 := by rw [← hcode]; exact h0
    rw [if_pos rfl, Int.toNat_natCast] at hv hv2
    obtain ⟨hs, _, n1, n3, hp⟩ := hz.out rfl
    rw [Int.toNat_natCast] at hp
    have Hw1 : Hid (Below w.heap.size w w1) := by (show Below _ _ _); (repeat (first | (with_reducible exact Below.refl _ _) | (with_reducible assumption) | (with_reducible refine below_al ?_) | (with_reducible refine below_dr ?_) | (with_reducible refine below_drN ?_) | (with_reducible refine below_set ?_ (by first | exact Nat.le_refl _ | (dsimp only; omega) | omega)) | (with_reducible refine below_tr (by with_reducible assumption) ?_)))
    have hgb : g < w1.heap.size := by obtain ⟨_, _, hB, _⟩ := hS; exact hB.lt
    obtain ⟨_, ⟨c1, c6⟩, h16⟩ := isSetB_parts hs
    have p1 := powC_4 c1 c6 (h := hn) (by omega)
    have hll := Nat.le_trans (lev_len c ts hn) (pow16 h16 (by omega : hn ≤ 3))
    have hcs := lev_Codes hs hn
    obtain ⟨S, hS'⟩ := Int.eq_ofNat_of_zero_le (by omega : 0 ≤ powC c hn)
    rw [hS'] at hS hcs p1 hp hv hv2
    rw [Int.toNat_natCast] at hcs hv hv2
    have HCs := Lib.hid hcs
    have HS := Lib.hid hS
    have HL := Lib.hid (lasting_c g c A ts.length cx hn S (lev c ts hn) w1 (by omega) (by omega) hcs (by omega) hS)
    have HSq := Lib.hid (fun bn q w hR hbn hq hgo hst hsep => sequenceW_c g c A ts.length cx hn S (lev c ts hn) bn q w (by omega) (by omega) hcs (by omega) hR hbn hq hgo hst hsep)
    have HV := Lib.hid hv
    have HV2 := Lib.hid hv2
    clear hb1 hcode hS hcs hS' hz h0 hv hv2 hs n1 n3 hp p1
    generalize lev c ts hn = cols at *
    unfold stripEnd
    go_wp2_with fail
    refine HL.out.mono ?_
    rintro e w2 ⟨v, t, X, Y, rfl, hX, hY, hO, ⟨T, hT⟩, hb2⟩
    have hli := lasting_iff HCs.out hX hY
    rw [← lastW_some] at hli
    obtain ⟨Av, kv, rfl, _⟩ := hO.shape
    obtain ⟨At, kt, rfl, _⟩ := hT.rows
    have Hb2 := Lib.hid hb2
    have Hw2 := Lib.hid (Hw1.out.trans (hb2.mono Hw1.out.size))
    have HLi := Lib.hid hli
    clear hO hT hX hY hb2 hli
    generalize (lastW X Y S).length = W at *
    by_cases hW : W = 0
    · subst hW
      have hf : (endL S cols true false (cols.length + 1)).contains true = false := by
        cases h3 : (endL S cols true false (cols.length + 1)).contains true
        · rfl
        · exact absurd rfl (HLi.out.2 h3)
      obtain ⟨q, hq, hgo, hst⟩ := endL_first hf
      have HN := Lib.hid (wfN_some hq hgo hst)
      have HSt := Lib.hid hst
      have HGo := Lib.hid hgo
      clear hf hst hgo
      go_wp2_with fail
      have hb9 := Hb2.out.alloc Hb2.out.size (.cells #[.int .i64 0] 2)
      refine (HSq.out w2.heap.size q _ (HS.out.below hb9) (by simpa using Blk.new w2 [.int .i64 0] 2) (by omega) HGo.out HSt.out (fun w' hF => HS.out.below (fr_bel hb9 hF Hb2.out.size))).mono ?_
      rintro e w3 ⟨rfl, hB3, hF3⟩
      have q0 := hB3.cell 0 (by simp)
      simp only [List.getElem_cons_zero] at q0
      have Hw3 := Lib.hid (Hw1.out.trans ((fr_bel hb9 hF3 Hb2.out.size).mono Hw1.out.size))
      clear hB3 hF3 hb9
      go_wp2
      go_ret2
      exact ⟨by rw [HV.out, HV2.out, HN.out]; rfl, Hw3.out⟩
    · have hN := wfN_none (S := S) (cols := cols) fun i hi => by
        obtain ⟨d, hd⟩ : ∃ d, cols.length + 1 = i + 1 + d := ⟨cols.length - i, by omega⟩
        have h3 := HLi.out.1 hW
        rw [hd] at h3
        exact endL_more HCs.out true false d (i + 1) h3
      have HN := Lib.hid hN
      have hW2 : (0 : Int) < (W : Int) := by omega
      clear hN hW
      go_wp2
      go_ret2
      exact ⟨by rw [HV.out, HV2.out, HN.out]; rfl, Hw2.out⟩

end Go.Proofs.Ytpcooplalncdcaa
