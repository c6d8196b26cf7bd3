/- Contracts and lemmas for the statements of this seat, written for this claim; each theorem states its own conditions. -/
import Derived.Test.YtnoehaphbpkpjaaGreatFoSu
import Derived.Test.YtnoehaphbpkpjaaGreatFoSe
set_option linter.unusedVariables false
set_option linter.unusedSimpArgs false
namespace Go.Proofs.YtnoehaphbpkpjaaGreat
open Go.RowKit
attribute [local go_sem] addUpon_value addUpon_skip addUpon_enter
def crow (k : Col) : List Int := [k.n, k.w, k.e, k.s]
def crows (l : List Col) : List (List Int) := l.map crow
theorem crows_len (l : List Col) : (crows l).length = l.length := by simp [crows]
theorem crows_append (l m : List Col) : crows (l ++ m) = crows l ++ crows m := by simp [crows]
theorem grown_dr {w W : World} {r : Option Nat} (h : w.grownBy W r) : w.grownBy W.drew r := ⟨h.os, h.tape, h.output, h.size, h.block⟩
theorem OwnII.lt {w : World} {B : Nat} {v : Value} {L : List (List Int)} (h : OwnII w B v L) : ∀ k, v.ownBlock = some k → B ≤ k ∧ k < w.heap.size := by
  obtain ⟨vs, h1, _⟩ := h
  exact fun k hk => World.ownsRow.lt h1 k hk
theorem OwnII.lit {w : World} {B g n : Nat} {cs : Array Value} {xs : List Int} (hg : w.heap.size = g) (hn : n = xs.length) (hc : cs.toList = ints xs) (hl : xs.length ≤ 1000000) (hB : B ≤ w.heap.size) :
    OwnII ((w.alloc (.cells cs 2)).alloc (.cells #[.slice (some ⟨g, 0, none⟩) n n] 39)) B (.slice (some ⟨g + 1, 0, none⟩) 1 1) [xs] := by
  subst hg hn
  refine ⟨[.slice (some ⟨w.heap.size, 0, none⟩) xs.length xs.length], ?_, fun i h h' => ?_, fun i j h h' hij => ?_, fun i h => ?_⟩
  · have := World.ownsRow_lit (base := B) (e := 39) (size := 1) (w.alloc (.cells cs 2)) #[.slice (some ⟨w.heap.size, 0, none⟩) xs.length xs.length] 1 (by simp; omega) (by simp [maxLen]) (by simp)
    simpa using this
  · have hi : i = 0 := by simp at h; omega
    subst hi
    exact (OwnI.made w B cs xs hc hB (by omega)).alloc _
  · simp at h h'; omega
  · have hi : i = 0 := by simp at h; omega
    subst hi
    exact Apart.blk (by omega)
set_option maxRecDepth 100000 in
set_option maxHeartbeats 1000000 in
theorem l06Size_c (c : Int) (n cx h : Nat) (A : Option Addr) (w : World) (h1 : 1 ≤ c) (h6 : c ≤ 6) (hh : h ≤ 4) :
    Calls Tryz.prog 80 #[.agg #[.int .i64 c, .slice A n cx], .int .i64 h] w fun e w' => e = .returned (.int .i64 (powC c h)) ∧ Below w.heap.size w w' := by
  have HP0 := Lib.hid (show (1 : Int) = powC c 0 by simp [powC])
  go_enter Tryz.func80, Tryz.ntmps80
  go_wp2_with fail
  go_loopw [5, 6] (fun s i wr => ∃ j : Nat, j ≤ h ∧ i = .int .i64 j ∧ s = .int .i64 (powC c j) ∧ Hid (wr = w.alloc (.cells #[.int .i64 c, .slice A n cx] 32))) (fun _ i _ => h - (intOf i).toNat)
  case atStart => exact ⟨0, by omega, rfl, by rw [← HP0.out], rfl⟩
  case round =>
    obtain ⟨j, hj, rfl, rfl, HW⟩ := hrel
    have c0 : wr.cell? ⟨w.heap.size, 0, none⟩ = some (.int .i64 c) := by rw [HW.out]; exact cell_alloc_at _ _ _ _ _ rfl
    have hN : w.heap.size < wr.heap.size := by rw [HW.out]; simp
    by_cases hjh : j < h
    · obtain ⟨p1, p2⟩ := powC_4 h1 h6 (h := j) (by omega)
      have hmul : IntKind.i64.wrap (powC c j * c) = powC c (j + 1) := by
        rw [(mulc (by omega) (by omega) (by omega) h6).1]; exact (Int.pow_succ c j).symm
      go_wp2
      go_roundw
      case rel => exact ⟨j + 1, by omega, by go_num, rfl, HW⟩
      case measure => simp [intOf]; omega
    · obtain rfl : j = h := by omega
      go_wp2
      go_ret
      exact ⟨rfl, by rw [HW.out]; (repeat (first | (with_reducible exact Below.refl _ _) | (with_reducible assumption) | (with_reducible refine below_al ?_) | (with_reducible refine below_dr ?_) | (with_reducible refine below_drN ?_) | (with_reducible refine below_set ?_ (by first | exact Nat.le_refl _ | (dsimp only; omega) | omega)) | (with_reducible refine below_tr (by with_reducible assumption) ?_)))⟩
def wordB (c : Int) (word : List Int) : Bool := word.all (inR 0 (c - 1))
theorem wordB_bad {c : Int} {word : List Int} {j : Nat} (hj : j < word.length) (h : inR 0 (c - 1) word[j] = false) : wordB c word = false := by
  unfold wordB
  rw [List.all_eq_false]
  exact ⟨word[j], List.getElem_mem hj, by simp [h]⟩
theorem wordB_good {c : Int} {word : List Int} (h : ∀ j (hj : j < word.length), inR 0 (c - 1) word[j] = true) : wordB c word = true := by
  unfold wordB
  rw [List.all_eq_true]
  intro x hx
  obtain ⟨j, hj, rfl⟩ := List.getElem_of_mem hx
  exact h j hj
/-- a word's code on the reference's side -/
def wordOk (c : Int) (word : List Int) : Bool := decide (1 ≤ word.length ∧ word.length ≤ 20) && wordB c word
theorem kids_take (c : Int) (ts : List T4) (f : Bool) (k : Col) : kids c (ts.take ts.length) f k = kids c ts f k := by rw [List.take_length]
def levTo (c : Int) (ts : List T4) (i k : Nat) : List Col := ((lev c ts i).take k).flatMap (kids c ts (decide (i = 0)))
theorem levTo_zero (c : Int) (ts : List T4) (i : Nat) : levTo c ts i 0 = [] := by simp [levTo]
theorem levTo_all (c : Int) (ts : List T4) (i : Nat) : levTo c ts i (lev c ts i).length = lev c ts (i + 1) := by simp [levTo, lev]
theorem levTo_succ (c : Int) (ts : List T4) (i k : Nat) (hk : k < (lev c ts i).length) : levTo c ts i (k + 1) = levTo c ts i k ++ kids c ts (decide (i = 0)) (lev c ts i)[k] := by
  unfold levTo
  rw [List.take_succ_eq_append_getElem hk, List.flatMap_append]
  simp
theorem levTo_le (c : Int) (ts : List T4) (i : Nat) : ∀ d k, k + d = (lev c ts i).length → (levTo c ts i k).length ≤ (lev c ts (i + 1)).length
  | 0, k, h => by rw [← levTo_all]; have : k = (lev c ts i).length := by omega
                  subst this; exact Nat.le_refl _
  | d + 1, k, h => by
    refine Nat.le_trans ?_ (levTo_le c ts i d (k + 1) (by omega))
    rw [levTo_succ _ _ _ _ (by omega), List.length_append]
    exact Nat.le_add_right _ _
theorem kids_le (c : Int) (ts : List T4) (f : Bool) (k : Col) : ∀ d j, j + d = ts.length → (kids c (ts.take j) f k).length ≤ (kids c ts f k).length
  | 0, j, h => by have : j = ts.length := by omega
                  subst this; rw [List.take_length]; exact Nat.le_refl _
  | d + 1, j, h => by
    refine Nat.le_trans ?_ (kids_le c ts f k d (j + 1) (by omega))
    rw [kids_succ _ _ _ _ _ (by omega), List.length_append]
    exact Nat.le_add_right _ _
theorem crow_get (k : Col) : (crow k).length = 4 ∧ (crow k)[0]'(by simp [crow]) = k.n ∧ (crow k)[1]'(by simp [crow]) = k.w ∧ (crow k)[2]'(by simp [crow]) = k.e ∧ (crow k)[3]'(by simp [crow]) = k.s := ⟨rfl, rfl, rfl, rfl, rfl⟩
/-- the four numbers of a row of columns -/
theorem crows_at {w : World} {B : Option Addr} {l : List Col} (h : RowsC w B (crows l)) (k : Nat) (hk : k < l.length) :
    ∃ b off r o cx, B = some ⟨b, off, none⟩ ∧ b < w.heap.size ∧ w.cell? ⟨b, off + k, none⟩ = some (.slice (some ⟨r, o, none⟩) 4 cx) ∧ r < w.heap.size ∧ w.cell? ⟨r, o, none⟩ = some (.int .i64 l[k].n) ∧
      w.cell? ⟨r, o + 1, none⟩ = some (.int .i64 l[k].w) ∧ w.cell? ⟨r, o + 2, none⟩ = some (.int .i64 l[k].e) ∧ w.cell? ⟨r, o + 3, none⟩ = some (.int .i64 l[k].s) := by
  obtain ⟨b, off, A, cx, e, hlt, hc, hr⟩ := h k (by rw [crows_len]; exact hk)
  have e1 : (crows l)[k]'(by rw [crows_len]; exact hk) = crow l[k] := by simp [crows]
  rw [e1] at hc hr
  obtain ⟨r, o, rfl, hl2, c0⟩ := hr.int 0 (by simp [crow])
  obtain ⟨r1, o1, q1, _, c1⟩ := hr.int 1 (by simp [crow])
  obtain ⟨r2, o2, q2, _, c2⟩ := hr.int 2 (by simp [crow])
  obtain ⟨r3, o3, q3, _, c3⟩ := hr.int 3 (by simp [crow])
  injection q1 with q1; injection q1 with q1 q1'; subst q1 q1'
  injection q2 with q2; injection q2 with q2 q2'; subst q2 q2'
  injection q3 with q3; injection q3 with q3 q3'; subst q3 q3'
  exact ⟨b, off, r, o, cx, e, hlt, hc, hl2, by simpa [crow] using c0, by simpa [crow] using c1, by simpa [crow] using c2, by simpa [crow] using c3⟩
set_option maxRecDepth 100000 in
set_option maxHeartbeats 1000000 in
theorem l10Columns_c (c : Int) (ts : List T4) (A : Option Addr) (cx h : Nat) (w : World) (hs : isSetB c ts = true) (hT : TileCells w A ts) (h1 : 1 ≤ h) (h3 : h ≤ 3) :
    Calls Tryz.prog 106 #[.agg #[.int .i64 c, .slice A ts.length cx], .int .i64 h] w fun e w' => ∃ v, e = .returned (.tuple #[v, .bool true]) ∧ OwnII w' w.heap.size v (crows (lev c ts h)) ∧ Below w.heap.size w w' := by
  obtain ⟨_, ⟨c1, c6⟩, h16⟩ := isSetB_parts hs
  have HI := Lib.hid (isSetB_inC hs)
  have HSm := Lib.hid (isSetB_small hs).1
  have HT := Lib.hid hT
  clear hs hT
  go_enter Tryz.func106, Tryz.ntmps106
  go_wp2_with fail
  have HO := Lib.hid (OwnII.lit (w := w.alloc (.cells #[.int .i64 c, .slice A ts.length cx] 32)) (B := w.heap.size + 1) (g := w.heap.size + 1) (n := 4) (cs := #[.int .i64 (-1), .int .i64 0, .int .i64 0, .int .i64 (-1)]) (xs := [-1, 0, 0, -1]) (by simp) rfl (by simp [ints]) (by simp) (by simp))
  go_loopw [6, 7] (fun v iv wr => ∃ i : Nat, i ≤ h ∧ iv = .int .i64 i ∧ Hid (OwnII wr (w.heap.size + 1) v (crows (lev c ts i))) ∧ Hid (Below (w.heap.size + 1) (w.alloc (.cells #[.int .i64 c, .slice A ts.length cx] 32)) wr)) (fun _ i _ => h - (intOf i).toNat)
  case atStart => exact ⟨0, by omega, rfl, HO, Lib.hid (((Below.refl _ _).alloc (by simp) _).alloc (by simp) _)⟩
  case round =>
    obtain ⟨i, hi, rfl, HOi, HBi⟩ := hrel
    obtain ⟨w0, rfl⟩ : ∃ w0, w0 = wr := ⟨wr, rfl⟩
    have HBw := Lib.hid (show Below w.heap.size w w0 from ((Below.refl w.heap.size w).alloc (Nat.le_refl _) _).trans (HBi.out.mono (by omega)))
    have hN : w.heap.size < w0.heap.size := by have := HBi.out.size; simp at this; omega
    have c0 : w0.cell? ⟨w.heap.size, 0, none⟩ = some (.int .i64 c) := (HBi.out.cell (p := ⟨w.heap.size, 0, none⟩) (by simp)).trans (cell_alloc_at _ _ _ _ _ rfl)
    have c1' : w0.cell? ⟨w.heap.size, 1, none⟩ = some (.slice A ts.length cx) := (HBi.out.cell (p := ⟨w.heap.size, 1, none⟩) (by simp)).trans (cell_alloc_at _ _ _ _ _ rfl)
    obtain ⟨An, kn, rfl, HRn⟩ := HOi.out.rows
    replace HRn := Lib.hid HRn
    have C0 := Lib.hid (keepC c0)
    have C1 := Lib.hid (keepC c1')
    by_cases hih : i < h
    · have l1 := Nat.le_trans (lev_len c ts i) (pow16 h16 (by omega : i ≤ 3))
      have l2 := Lib.hid (Nat.le_trans (lev_len c ts (i + 1)) (pow16 h16 (by omega : i + 1 ≤ 3)))
      have lc := crows_len (lev c ts i)
      have HCd := Lib.hid (lev_codes c1 HI.out i)
      have hpow := powC_4 c1 c6 (h := i) (by omega)
      have HNe : Hid (∀ k, k < (lev c ts i).length → True) := fun _ _ => trivial
      obtain ⟨len, hlen⟩ : ∃ len, (crows (lev c ts i)).length = len := ⟨_, rfl⟩
      rw [hlen] at lc
      have HLc := Lib.hid lc
      have HLn := Lib.hid hlen
      have hlen4 : len ≤ 4096 := by omega
      clear lc l1 c0 c1'
      rw [hlen]
      clear hlen
      go_wp2_with fail
      go_loopw [8, 9] (fun v8 kv wr => ∃ k : Nat, k ≤ len ∧ kv = .int .i64 k ∧ Hid (OwnII wr w0.heap.size v8 (crows (levTo c ts i k))) ∧ Hid (Below w0.heap.size w0 wr)) (fun _ k _ => len - (intOf k).toNat)
      case atStart => exact ⟨0, by omega, rfl, Lib.hid (by rw [levTo_zero]; exact OwnII.empty rfl (Nat.le_refl _)), Lib.hid (by (repeat (first | (with_reducible exact Below.refl _ _) | (with_reducible assumption) | (with_reducible refine below_al ?_) | (with_reducible refine below_dr ?_) | (with_reducible refine below_drN ?_) | (with_reducible refine below_set ?_ (by first | exact Nat.le_refl _ | (dsimp only; omega) | omega)) | (with_reducible refine below_tr (by with_reducible assumption) ?_))))⟩
      case round =>
        obtain ⟨k, hk, rfl, HO8, HB8⟩ := hrel
        obtain ⟨w1, rfl⟩ : ∃ w1, w1 = wr := ⟨wr, rfl⟩
        by_cases hkl : k < len
        · have hkl' : k < (lev c ts i).length := by have := HLc.out; omega
          have HSu := Lib.hid (levTo_succ c ts i k hkl')
          have HLe := Lib.hid (levTo_le c ts i ((lev c ts i).length - (k + 1)) (k + 1) (by omega))
          have HRow := Lib.hid (fun wz (hz : Below w0.heap.size w0 wz) => crows_at (HRn.out.below hz) k hkl')
          obtain ⟨⟨kw1, kw2⟩, ⟨ke1, ke2⟩, _⟩ := HCd.out _ (List.getElem_mem hkl')
          generalize (lev c ts i)[k] = col at *
          have hp2 := hpow.2
          have hpe : c ^ i = powC c i := rfl
          rw [hpe] at kw2 ke2
          have HK0 := Lib.hid hpow
          clear hpow hpe hkl'
          have c0 := C0.out _ HB8.out
          have c1' := C1.out _ HB8.out
          have hN1 : w.heap.size < w1.heap.size := by have := HB8.out.size; omega
          go_wp2_with fail
          go_loopw [8, 10] (fun v8 jv wr => ∃ j : Nat, j ≤ ts.length ∧ jv = .int .i64 j ∧ Hid (OwnII wr w0.heap.size v8 (crows (levTo c ts i k ++ kids c (ts.take j) (decide (i = 0)) col))) ∧ Hid (Below w0.heap.size w0 wr)) (fun _ j _ => ts.length - (intOf j).toNat)
          case atStart => exact ⟨0, by omega, rfl, Lib.hid (by simpa [kids] using HO8.out), HB8⟩
          case round =>
            obtain ⟨j, hj, rfl, HOz, HBz⟩ := hrel
            obtain ⟨wq, rfl⟩ : ∃ wq, wq = wr := ⟨wr, rfl⟩
            have d0 := C0.out _ HBz.out
            have d1 := C1.out _ HBz.out
            have hNq : w.heap.size < wq.heap.size := by have := HBz.out.size; omega
            by_cases hjl : j < ts.length
            · obtain ⟨b, off, rfl, hlt, t0, t1, t2, t3⟩ := (HT.out.below (HBw.out.trans (HBz.out.mono HBw.out.size))) j hjl
              obtain ⟨⟨a1, a2⟩, ⟨a3, a4⟩, ⟨a5, a6⟩, a7, a8⟩ := HSm.out j hjl
              have HKs := Lib.hid (kids_succ c ts (decide (i = 0)) col j hjl)
              have HKl := Lib.hid (kids_le c ts (decide (i = 0)) col (ts.length - (j + 1)) (j + 1) (by omega))
              generalize ts[j] = t at *
              have HKj := Lib.hid (kids_le c ts (decide (i = 0)) col (ts.length - j) j (by omega))
              obtain ⟨A8, k8, rfl, _⟩ := HOz.out.rows
              have hR := Lib.hid HOz.out.lt
              obtain ⟨n8, hn8⟩ : ∃ n8, (crows (levTo c ts i k ++ kids c (ts.take j) (decide (i = 0)) col)).length = n8 := ⟨_, rfl⟩
              have hn8' : n8 ≤ 4096 := by
                have z1 := HLe.out
                have z2 := HKj.out
                have z3 := l2.out
                rw [HSu.out, List.length_append] at z1
                rw [crows_len, List.length_append] at hn8
                omega
              have HN8 := Lib.hid hn8
              rw [hn8] at hR
              rw [hn8]
              clear hn8
              have hn5 : ((n8 : Int) == 5000) = false := by simp; omega
              obtain ⟨b', off', r, o, cx', rfl, hb', cc, hr, n0, n1, n2, n3⟩ := HRow.out _ (Below.refl _ _)
              obtain ⟨wt, hwt⟩ : ∃ wt, wt = (wq.alloc (.cells #[.int .i64 t.a, .int .i64 t.b, .int .i64 t.c, .int .i64 t.d] 30)) := ⟨_, rfl⟩
              have HBW := Lib.hid (show Below w0.heap.size w0 wt by rw [hwt]; have h3 := HBz.out; (repeat (first | (with_reducible exact Below.refl _ _) | (with_reducible assumption) | (with_reducible refine below_al ?_) | (with_reducible refine below_dr ?_) | (with_reducible refine below_drN ?_) | (with_reducible refine below_set ?_ (by first | exact Nat.le_refl _ | (dsimp only; omega) | omega)) | (with_reducible refine below_tr (by with_reducible assumption) ?_))))
              have HSW := Lib.hid (show wq.heap.size < wt.heap.size by rw [hwt]; simp)
              have HOw := Lib.hid (show OwnII wt w0.heap.size (.slice A8 n8 k8) (crows (levTo c ts i k ++ kids c (ts.take j) (decide (i = 0)) col)) from by rw [hwt, ← HN8.out]; exact HOz.out.below (below_al (Below.refl _ _)))
              have Ecc := Lib.hid (fun w' (h : Below w0.heap.size w0 w') => (h.cell (p := ⟨b', off' + k, none⟩) hb').trans cc)
              have En0 := Lib.hid (fun w' (h : Below w0.heap.size w0 w') => (h.cell (p := ⟨r, o, none⟩) hr).trans n0)
              have En1 := Lib.hid (fun w' (h : Below w0.heap.size w0 w') => (h.cell (p := ⟨r, o + 1, none⟩) hr).trans n1)
              have En2 := Lib.hid (fun w' (h : Below w0.heap.size w0 w') => (h.cell (p := ⟨r, o + 2, none⟩) hr).trans n2)
              have En3 := Lib.hid (fun w' (h : Below w0.heap.size w0 w') => (h.cell (p := ⟨r, o + 3, none⟩) hr).trans n3)
              clear cc n0 n1 n2 n3
              have u0 : wt.cell? ⟨wq.heap.size, 0, none⟩ = some (.int .i64 t.a) := by rw [hwt]; exact cell_alloc_at _ _ _ _ _ rfl
              have u1 : wt.cell? ⟨wq.heap.size, 1, none⟩ = some (.int .i64 t.b) := by rw [hwt]; exact cell_alloc_at _ _ _ _ _ rfl
              have u2 : wt.cell? ⟨wq.heap.size, 2, none⟩ = some (.int .i64 t.c) := by rw [hwt]; exact cell_alloc_at _ _ _ _ _ rfl
              have u3 : wt.cell? ⟨wq.heap.size, 3, none⟩ = some (.int .i64 t.d) := by rw [hwt]; exact cell_alloc_at _ _ _ _ _ rfl
              have U0 := keepC u0
              have U1 := keepC u1
              have U2 := keepC u2
              have U3 := keepC u3
              have X3 := keepC (En3.out _ HBW.out)
              have Xc := keepC (Ecc.out _ HBW.out)
              clear u0 u1 u2 u3
              replace hwt := Lib.hid hwt
              obtain ⟨x1, x2, x3⟩ := mulc kw1 (by omega) (by omega) c6
              obtain ⟨y1, y2, y3⟩ := mulc ke1 (by omega) (by omega) c6
              obtain ⟨pw, hpw⟩ : ∃ p, col.w * c = p := ⟨_, rfl⟩
              obtain ⟨pe, hpe⟩ : ∃ p, col.e * c = p := ⟨_, rfl⟩
              rw [hpw] at x1 x2 x3
              rw [hpe] at y1 y2 y3
              have hwa : IntKind.i64.wrap (pw + t.a) = pw + t.a := IntWalk.i64_in _ (by omega)
              have hwe : IntKind.i64.wrap (pe + t.c) = pe + t.c := IntWalk.i64_in _ (by omega)
              by_cases hi0 : i = 0
              · have q0 : ¬ 0 < i := by omega
                have q1 : ((i : Int) == 0) = true := by simp [hi0]
                have q2 : decide ((i : Int) > 0) = false := by simp; omega
                have q3 : decide ((0 : Int) < (i : Int)) = false := by simp; omega
                have q4 : decide (0 < i) = false := by simp; omega
                replace hi0 := Lib.hid hi0
                go_wp2_with fail
                rw [← hwt.out]
                refine wp_region_add (fun w' => Below (wt).heap.size (wt) w') (by kernel_rfl) (by kernel_rfl) ((Below.refl _ _).drew) ?_
                repeat (first
                  | (refine add_skip rfl (fun K' hK' => ?_); go_simp; refine hK' _ ?_; clear hK' K')
                  | (refine add_do (v := ?_) rfl (fun w1 hb => ?_) (fun K' hK' => ?_); rotate_left
                     · go_simp
                       first
                       | (with_reducible exact rfl)
                       | (with_reducible exact ⟨rfl, hb⟩)
                       | exact rfl
                       | exact ⟨rfl, hb⟩
                     go_simp; refine hK' _ ?_; clear hK' K'))
                refine add_nil ?_
                intro wa hba
                have HBa := Lib.hid (HBW.out.trans (hba.mono HBW.out.size))
                have ua1 := U1 _ hba
                have UA0 := U0 _ hba
                have UA2 := U2 _ hba
                have UA3 := U3 _ hba
                have ca := Ecc.out _ HBa.out
                have na0 := En0.out _ HBa.out
                have na1 := En1.out _ HBa.out
                have na2 := En2.out _ HBa.out
                have sa0 := C0.out _ HBa.out
                have HOa := Lib.hid (HOw.out.below hba)
                have hsz := Lib.hid (Nat.lt_of_lt_of_le HSW.out hba.size)
                replace HKs := Lib.hid HKs.out
                clear hba U0 U1 U2 U3 X3 Xc d0 d1 t0 t1 t2 t3
                go_wp2_with fail
                have hne : ∀ q, q < w0.heap.size → some q ≠ (Value.slice A8 n8 k8).ownBlock := fun q hq e => by have := hR.out q e.symm; omega
                have hnt : some wq.heap.size ≠ (Value.slice A8 n8 k8).ownBlock := fun e => by have := hR.out _ e.symm; omega
                have G0 := fun w' (h : wa.grownBy w' (Value.slice A8 n8 k8).ownBlock) => h.cell UA0 hnt
                have G2 := fun w' (h : wa.grownBy w' (Value.slice A8 n8 k8).ownBlock) => h.cell UA2 hnt
                have G3 := fun w' (h : wa.grownBy w' (Value.slice A8 n8 k8).ownBlock) => h.cell UA3 hnt
                have Gc := fun w' (h : wa.grownBy w' (Value.slice A8 n8 k8).ownBlock) => h.cell ca (hne _ hb')
                have G4 := fun w' (h : wa.grownBy w' (Value.slice A8 n8 k8).ownBlock) => h.cell na1 (hne _ hr)
                have G5 := fun w' (h : wa.grownBy w' (Value.slice A8 n8 k8).ownBlock) => h.cell na2 (hne _ hr)
                have G6 := fun w' (h : wa.grownBy w' (Value.slice A8 n8 k8).ownBlock) => h.cell sa0 (hne _ hN)
                clear hne hnt UA0 UA2 UA3 ca na0 na1 na2 sa0 ua1
                refine wp_region_mix [(0, true), (1, true), (2, true), (3, true), (4, true), (5, true), (6, true), (7, true), (8, true), (9, true), (10, true), (11, true), (12, true), (13, true), (14, true), (15, true), (16, true), (17, true), (18, true), (19, true), (20, true), (21, true), (22, true), (23, true), (24, true), (25, true), (26, true), (27, true), (28, false), (29, false), (30, false), (31, true)] (fun w' => wa.grownBy w' (Value.slice A8 n8 k8).ownBlock) (by kernel_rfl) (by kernel_rfl) (fun _ _ d _ _ h => by cases d <;> exact h) (⟨rfl, rfl, rfl, Nat.le_refl _, fun _ _ _ => rfl⟩) ?_
                repeat (first
                  | (refine mix_skip rfl rfl (fun K' hK' => ?_); go_simp; refine hK' _ ?_; clear hK' K')
                  | (refine mix_do (v := ?_) rfl rfl (fun w1 hb => ?_) (fun K' hK' => ?_); rotate_left
                     · go_simp
                       rfl
                     go_simp; refine hK' _ ?_; clear hK' K'))
                refine mix_call rfl rfl (fun K' hK' => ?_)
                go_simp
                refine hK' _ _ (grown_dr (World.grownBy_alloc wa _ _)) ?_; clear hK' K'
                refine mix_call rfl rfl (fun K' hK' => ?_)
                go_simp
                refine hK' _ _ (grown_dr ((World.grownBy_alloc wa _ _).trans (World.grownBy_alloc _ _ _))) ?_; clear hK' K'
                refine mix_call rfl rfl (fun K' hK' => ?_)
                refine app_row (.tmp 65) (.tmp 94) rfl w0.heap.size _ _ _ [t.b, pw + t.a, pe + t.c, t.d] rfl HOa.out (below_dr (below_al (below_al (Below.refl _ _)))) ((OwnI.made wa _ #[.int .i64 t.b, .int .i64 (pw + t.a), .int .i64 (pe + t.c), .int .i64 t.d] [t.b, pw + t.a, pe + t.c, t.d] rfl (Nat.le_refl _) (by simp)).alloc _) (wa.heap.size + 1) 0 rfl (cell_al _ _ _ _ _ _ (by simp) rfl) (Nat.le_trans (Nat.le_of_eq HN8.out) (by omega)) (Nat.le_trans (by have := HBa.out.size; omega) (Nat.le_refl wa.heap.size)) (fun v' w' h1 h2 h3 => ?_)
                have hfin : OwnII w' w0.heap.size v' (crows (levTo c ts i k ++ kids c (ts.take (j + 1)) (decide (i = 0)) col)) := by
                  have := h1
                  rw [HKs.out, ← List.append_assoc, crows_append (levTo c ts i k ++ kids c (ts.take j) (decide (i = 0)) col)]
                  rw [show fits (decide (i = 0)) col t = true by simp [fits, hi0.out], if_pos rfl, show crows [kid c (decide (i = 0)) col t] = [[t.b, pw + t.a, pe + t.c, t.d]] by simp [crows, crow, kid, hi0.out, hpw, hpe]]
                  exact this
                have hbfin : Below w0.heap.size w0 w' := Below.grown (below_dr (below_al (below_al HBa.out))) h2 (by have := HBa.out.size; simp; omega) (fun k hk => (hR.out k hk).1)
                have HFin := Lib.hid (And.intro hfin hbfin)
                refine hK' _ _ ((grown_dr ((World.grownBy_alloc wa _ _).trans (World.grownBy_alloc _ _ _))).trans h2) ?_
                clear hK' K' h1 h2 h3 hfin hbfin
                repeat (first
                  | (refine mix_skip rfl rfl (fun K' hK' => ?_); go_simp; refine hK' _ ?_; clear hK' K')
                  | (refine mix_do (v := ?_) rfl rfl (fun w1 hb => ?_) (fun K' hK' => ?_); rotate_left
                     · go_simp
                       rfl
                     go_simp; refine hK' _ ?_; clear hK' K'))
                refine mix_nil ?_
                go_wp2_with fail
                go_roundw
                case rel => exact ⟨j + 1, by omega, by go_num, Lib.hid HFin.out.1, Lib.hid HFin.out.2⟩
                case measure => simp [intOf]; omega
              · have q0 : 0 < i := by omega
                have q1 : ((i : Int) == 0) = false := by simp [hi0]
                have q2 : decide ((i : Int) > 0) = true := by simp; omega
                have q3 : decide ((0 : Int) < (i : Int)) = true := by simp; omega
                replace hi0 := Lib.hid hi0
                by_cases hb : t.b = col.s
                · have q5 : (col.s != t.b) = false := by simp [hb]
                  replace hb := Lib.hid hb
                  go_wp2_with fail
                  rw [← hwt.out]
                  refine wp_region_add (fun w' => Below (wt).heap.size (wt) w') (by kernel_rfl) (by kernel_rfl) ((Below.refl _ _).drew) ?_
                  repeat (first
                    | (refine add_skip rfl (fun K' hK' => ?_); go_simp; refine hK' _ ?_; clear hK' K')
                    | (refine add_do (v := ?_) rfl (fun w1 hb => ?_) (fun K' hK' => ?_); rotate_left
                       · go_simp
                         first
                         | (with_reducible exact rfl)
                         | (with_reducible exact ⟨rfl, hb⟩)
                         | exact rfl
                         | exact ⟨rfl, hb⟩
                       go_simp; refine hK' _ ?_; clear hK' K'))
                  refine add_nil ?_
                  intro wa hba
                  have HBa := Lib.hid (HBW.out.trans (hba.mono HBW.out.size))
                  have ua1 := U1 _ hba
                  have UA0 := U0 _ hba
                  have UA2 := U2 _ hba
                  have UA3 := U3 _ hba
                  have ca := Ecc.out _ HBa.out
                  have na0 := En0.out _ HBa.out
                  have na1 := En1.out _ HBa.out
                  have na2 := En2.out _ HBa.out
                  have sa0 := C0.out _ HBa.out
                  have HOa := Lib.hid (HOw.out.below hba)
                  have hsz := Lib.hid (Nat.lt_of_lt_of_le HSW.out hba.size)
                  replace HKs := Lib.hid HKs.out
                  clear hba U0 U1 U2 U3 X3 Xc d0 d1 t0 t1 t2 t3
                  go_wp2_with fail
                  have hne : ∀ q, q < w0.heap.size → some q ≠ (Value.slice A8 n8 k8).ownBlock := fun q hq e => by have := hR.out q e.symm; omega
                  have hnt : some wq.heap.size ≠ (Value.slice A8 n8 k8).ownBlock := fun e => by have := hR.out _ e.symm; omega
                  have G0 := fun w' (h : wa.grownBy w' (Value.slice A8 n8 k8).ownBlock) => h.cell UA0 hnt
                  have G2 := fun w' (h : wa.grownBy w' (Value.slice A8 n8 k8).ownBlock) => h.cell UA2 hnt
                  have G3 := fun w' (h : wa.grownBy w' (Value.slice A8 n8 k8).ownBlock) => h.cell UA3 hnt
                  have Gc := fun w' (h : wa.grownBy w' (Value.slice A8 n8 k8).ownBlock) => h.cell ca (hne _ hb')
                  have G4 := fun w' (h : wa.grownBy w' (Value.slice A8 n8 k8).ownBlock) => h.cell na1 (hne _ hr)
                  have G5 := fun w' (h : wa.grownBy w' (Value.slice A8 n8 k8).ownBlock) => h.cell na2 (hne _ hr)
                  have G6 := fun w' (h : wa.grownBy w' (Value.slice A8 n8 k8).ownBlock) => h.cell sa0 (hne _ hN)
                  clear hne hnt UA0 UA2 UA3 ca na0 na1 na2 sa0 ua1
                  refine wp_region_mix [(0, true), (1, true), (2, true), (3, true), (4, true), (5, true), (6, true), (7, true), (8, true), (9, true), (10, true), (11, true), (12, true), (13, true), (14, true), (15, true), (16, true), (17, true), (18, true), (19, true), (20, true), (21, true), (22, true), (23, true), (24, true), (25, true), (26, true), (27, true), (28, false), (29, false), (30, false), (31, true)] (fun w' => wa.grownBy w' (Value.slice A8 n8 k8).ownBlock) (by kernel_rfl) (by kernel_rfl) (fun _ _ d _ _ h => by cases d <;> exact h) (⟨rfl, rfl, rfl, Nat.le_refl _, fun _ _ _ => rfl⟩) ?_
                  repeat (first
                    | (refine mix_skip rfl rfl (fun K' hK' => ?_); go_simp; refine hK' _ ?_; clear hK' K')
                    | (refine mix_do (v := ?_) rfl rfl (fun w1 hb => ?_) (fun K' hK' => ?_); rotate_left
                       · go_simp
                         rfl
                       go_simp; refine hK' _ ?_; clear hK' K'))
                  refine mix_call rfl rfl (fun K' hK' => ?_)
                  go_simp
                  refine hK' _ _ (grown_dr (World.grownBy_alloc wa _ _)) ?_; clear hK' K'
                  refine mix_call rfl rfl (fun K' hK' => ?_)
                  go_simp
                  refine hK' _ _ (grown_dr ((World.grownBy_alloc wa _ _).trans (World.grownBy_alloc _ _ _))) ?_; clear hK' K'
                  refine mix_call rfl rfl (fun K' hK' => ?_)
                  refine app_row (.tmp 65) (.tmp 94) rfl w0.heap.size _ _ _ [col.n, pw + t.a, pe + t.c, t.d] rfl HOa.out (below_dr (below_al (below_al (Below.refl _ _)))) ((OwnI.made wa _ #[.int .i64 col.n, .int .i64 (pw + t.a), .int .i64 (pe + t.c), .int .i64 t.d] [col.n, pw + t.a, pe + t.c, t.d] rfl (Nat.le_refl _) (by simp)).alloc _) (wa.heap.size + 1) 0 rfl (cell_al _ _ _ _ _ _ (by simp) rfl) (Nat.le_trans (Nat.le_of_eq HN8.out) (by omega)) (Nat.le_trans (by have := HBa.out.size; omega) (Nat.le_refl wa.heap.size)) (fun v' w' h1 h2 h3 => ?_)
                  have hfin : OwnII w' w0.heap.size v' (crows (levTo c ts i k ++ kids c (ts.take (j + 1)) (decide (i = 0)) col)) := by
                    have := h1
                    rw [HKs.out, ← List.append_assoc, crows_append (levTo c ts i k ++ kids c (ts.take j) (decide (i = 0)) col)]
                    rw [show fits (decide (i = 0)) col t = true by simp [fits, hb.out], if_pos rfl, show crows [kid c (decide (i = 0)) col t] = [[col.n, pw + t.a, pe + t.c, t.d]] by simp [crows, crow, kid, hi0.out, hpw, hpe]]
                    exact this
                  have hbfin : Below w0.heap.size w0 w' := Below.grown (below_dr (below_al (below_al HBa.out))) h2 (by have := HBa.out.size; simp; omega) (fun k hk => (hR.out k hk).1)
                  have HFin := Lib.hid (And.intro hfin hbfin)
                  refine hK' _ _ ((grown_dr ((World.grownBy_alloc wa _ _).trans (World.grownBy_alloc _ _ _))).trans h2) ?_
                  clear hK' K' h1 h2 h3 hfin hbfin
                  repeat (first
                    | (refine mix_skip rfl rfl (fun K' hK' => ?_); go_simp; refine hK' _ ?_; clear hK' K')
                    | (refine mix_do (v := ?_) rfl rfl (fun w1 hb => ?_) (fun K' hK' => ?_); rotate_left
                       · go_simp
                         rfl
                       go_simp; refine hK' _ ?_; clear hK' K'))
                  refine mix_nil ?_
                  go_wp2_with fail
                  go_roundw
                  case rel => exact ⟨j + 1, by omega, by go_num, Lib.hid HFin.out.1, Lib.hid HFin.out.2⟩
                  case measure => simp [intOf]; omega
                · have q5 : (col.s != t.b) = true := by simp [Ne.symm hb]
                  have hend : Hid (kids c (ts.take (j + 1)) (decide (i = 0)) col = kids c (ts.take j) (decide (i = 0)) col) := by
                    show kids c (ts.take (j + 1)) (decide (i = 0)) col = _
                    rw [HKs.out, show fits (decide (i = 0)) col t = false by simp [fits, hi0.out, hb]]
                    simp
                  replace hb := Lib.hid hb
                  go_wp2_with fail
                  rw [← hwt.out]
                  refine wp_region_add (fun w' => Below (wt).heap.size (wt) w') (by kernel_rfl) (by kernel_rfl) ((Below.refl _ _).drew) ?_
                  repeat (first
                    | (refine add_skip rfl (fun K' hK' => ?_); go_simp; refine hK' _ ?_; clear hK' K')
                    | (refine add_do (v := ?_) rfl (fun w1 hb => ?_) (fun K' hK' => ?_); rotate_left
                       · go_simp
                         first
                         | (with_reducible exact rfl)
                         | (with_reducible exact ⟨rfl, hb⟩)
                         | exact rfl
                         | exact ⟨rfl, hb⟩
                       go_simp; refine hK' _ ?_; clear hK' K'))
                  refine add_nil ?_
                  intro wa hba
                  have HBa := Lib.hid (HBW.out.trans (hba.mono HBW.out.size))
                  have ua1 := U1 _ hba
                  have UA0 := U0 _ hba
                  have UA2 := U2 _ hba
                  have UA3 := U3 _ hba
                  have ca := Ecc.out _ HBa.out
                  have na0 := En0.out _ HBa.out
                  have na1 := En1.out _ HBa.out
                  have na2 := En2.out _ HBa.out
                  have sa0 := C0.out _ HBa.out
                  have HOa := Lib.hid (HOw.out.below hba)
                  have hsz := Lib.hid (Nat.lt_of_lt_of_le HSW.out hba.size)
                  replace HKs := Lib.hid HKs.out
                  clear hba U0 U1 U2 U3 X3 Xc d0 d1 t0 t1 t2 t3
                  go_wp2_with fail
                  go_roundw
                  case rel => exact ⟨j + 1, by omega, by go_num, Lib.hid (by rw [hend.out]; exact HOa.out), HBa⟩
                  case measure => simp [intOf]; omega
            · obtain rfl : j = ts.length := by omega
              have HOz2 := Lib.hid (show OwnII wq w0.heap.size _ (crows (levTo c ts i (k + 1))) from by rw [HSu.out]; have := HOz.out; rwa [List.take_length] at this)
              go_wp2_with fail
              go_roundw
              case rel => exact ⟨k + 1, by omega, by go_num, HOz2, HBz⟩
              case measure => simp [intOf]; omega
        · obtain rfl : k = len := by omega
          have HO9 := Lib.hid (show OwnII w1 (w.heap.size + 1) _ (crows (lev c ts (i + 1))) from by have := HO8.out; rw [HLc.out, levTo_all] at this; exact this.weaken (by omega))
          go_wp2_with fail
          go_roundw
          case rel => exact ⟨i + 1, by omega, by go_num, HO9, Lib.hid (HBi.out.trans (HB8.out.mono (by omega)))⟩
          case measure => simp [intOf]; omega
    · obtain rfl : i = h := by omega
      clear c0 c1'
      go_wp2
      go_ret2
      exact ⟨_, rfl, HOi.out.weaken (by omega), HBw.out⟩

end Go.Proofs.YtnoehaphbpkpjaaGreat
