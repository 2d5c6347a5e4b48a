/- spec.l02Draw: an alphabet is drawn -/
import Derived.Test.YtopfcpnilblieaaGreatDoorDraw1
import Derived.Deep.DeepCutAuto
namespace Go.Proofs.YtopfcpnilblieaaGreatDoor
open Go.RowKit

theorem Src.far {w w' : World} {g k : Nat} (h : Src w g) (hg : w.grownBy w' (some k)) (hk : g < k) : Src w' g := by
  obtain ⟨A, n, c, a, y, h0, h1, h2, h3, h4, h5, f1, f2, hB⟩ := h.ex
  have hne : ∀ o, some (⟨g, o, none⟩ : Addr).block ≠ some k := fun o e => by injection e with e; simp at e; omega
  exact ⟨Nat.lt_of_lt_of_le h.lt hg.size, A, n, c, a, y, hg.cell h0 (hne 0), hg.cell h1 (hne 1), hg.cell h2 (hne 2), h3, h4, h5, (hg.frozen_far ⟨g, 1, none⟩ h.lt (hne 1)).trans f1, (hg.frozen_far ⟨g, 2, none⟩ h.lt (hne 2)).trans f2, hB.grown hg (by omega)⟩
theorem only_new {a w w' : World} {g k : Nat} (h : Only a w g) (hg : w.grownBy w' (some k)) (hk : a.heap.size ≤ k) : Only a w' g :=
  ⟨hg.os.trans h.os, hg.tape.trans h.tape, hg.output.trans h.output, Nat.le_trans h.size hg.size, fun i hi hne => (hg.block i (Nat.lt_of_lt_of_le hi h.size) (fun e => by injection e; omega)).trans (h.block i hi hne)⟩
theorem Own.only {w w' : World} {base T g : Nat} {v : Value} {xs : List Value} (h : Own w base T v xs) (hg : Only w w' g) (hb : g < base) : Own w' base T v xs := h.kept hg (.inr (own_base h hb))
theorem cells_new (w : World) (xs : List Int) (T L : Nat) (hL : L ≤ w.heap.size) : Cells (w.alloc (.cells (nums xs).toArray T)) L (w.alloc (.cells (nums xs).toArray T)).heap.size (some ⟨w.heap.size, 0, none⟩) (nums xs) :=
  ⟨fun j u hj => ⟨_, _, rfl, hL, by simp, by simp [go_sem, hj]⟩⟩
theorem nats_getD {xs : List Nat} {i : Nat} (h : i < xs.length) : (nats xs)[i]? = some (.int .i64 ((xs.getD i 0 : Nat) : Int)) := by
  rw [nats_get h]; simp [List.getD_eq_getElem?_getD, h]
theorem getD_lt {ds : List Nat} {i M : Nat} (h : ∀ m ∈ ds, m < M) (hM : 0 < M) : ds.getD i 0 < M := by
  by_cases hi : i < ds.length
  · rw [show ds.getD i 0 = ds[i] by simp [List.getD_eq_getElem?_getD, hi]]; exact h _ (List.getElem_mem hi)
  · rw [show ds.getD i 0 = 0 by simp [List.getD_eq_getElem?_getD]; rw [List.getElem?_eq_none (by omega)]; rfl]; exact hM

/-- Two letters are made to depend. -/
def joinL (ds : List Nat) (a b : Nat) : List Nat :=
  let ds1 := ds.set a (ds.getD a 0 ||| 2 ^ b)
  ds1.set b (ds1.getD b 0 ||| 2 ^ a)
theorem joinL_length (ds : List Nat) (a b : Nat) : (joinL ds a b).length = ds.length := by simp [joinL]
theorem set_lt {ds : List Nat} {M i m : Nat} (h : ∀ m ∈ ds, m < M) (hm : m < M) : ∀ x ∈ ds.set i m, x < M := fun x hx => by
  rcases List.mem_or_eq_of_mem_set hx with hx | rfl
  · exact h x hx
  · exact hm
theorem or2_lt {M k : Nat} {x i : Nat} (hM : M = 2 ^ k) (hx : x < M) (hi : i < k) : x ||| 2 ^ i < M := by
  subst hM; exact Nat.or_lt_two_pow hx (Nat.pow_lt_pow_right (by decide) hi)
theorem joinL_lt {ds : List Nat} {a b k : Nat} (h : ∀ m ∈ ds, m < 2 ^ k) (ha : a < k) (hb : b < k) : ∀ m ∈ joinL ds a b, m < 2 ^ k := by
  have h1 := set_lt (i := a) h (or2_lt (x := ds.getD a 0) rfl (getD_lt h (Nat.two_pow_pos k)) hb)
  exact set_lt h1 (or2_lt rfl (getD_lt h1 (Nat.two_pow_pos k)) ha)

set_option maxRecDepth 100000 in
theorem sJoin_c (n : Int) (g m cap B a b : Nat) (ds : List Nat) (w : World) (hd : ∀ m ∈ ds, m < 2 ^ 63) (ha : a < ds.length) (hb : b < ds.length) (h63 : ds.length ≤ 63)
    (HO : Own w B 2 (.slice (some ⟨g, 0, none⟩) m cap) (nats ds)) :
    Calls Tryz.prog 26 #[.agg #[.int .i64 n, .slice (some ⟨g, 0, none⟩) m cap], .int .i64 (a : Int), .int .i64 (b : Int)] w fun e w' =>
      (∃ r, e = .returned r) ∧ Own w' B 2 (.slice (some ⟨g, 0, none⟩) m cap) (nats (joinL ds a b)) ∧ w.grownBy w' (some g) := by
  have hm : m = ds.length := by have := HO.len; rwa [nats_length] at this
  subst hm
  have hg : g < w.heap.size := by
    have := (World.ownsRow.lt HO g rfl).2; exact this
  have ht := Two.new w (.int .i64 n) (.slice (some ⟨g, 0, none⟩) ds.length cap) 26
  have HO0 : Own (w.alloc (.cells #[.int .i64 n, .slice (some ⟨g, 0, none⟩) ds.length cap] 26)) B 2 (.slice (some ⟨g, 0, none⟩) ds.length cap) (nats ds) := HO.alloc _
  have hal := (Below.refl w.heap.size w).alloc (Nat.le_refl _) (.cells #[.int .i64 n, .slice (some ⟨g, 0, none⟩) ds.length cap] 26)
  have ha' : (a : Int) < ds.length := by omega
  have hb' : (b : Int) < ds.length := by omega
  have x1 : ds.getD a 0 < 2 ^ 63 := getD_lt hd (by decide)
  have hd1 := set_lt (i := a) hd (or_lt63 x1 (pow_lt63 (show b < 63 by omega)))
  obtain ⟨ds1, hds1⟩ : ∃ ds1, ds1 = ds.set a (ds.getD a 0 ||| 2 ^ b) := ⟨_, rfl⟩
  have hj : joinL ds a b = ds1.set b (ds1.getD b 0 ||| 2 ^ a) := by rw [hds1]; rfl
  have hl1 : ds1.length = ds.length := by rw [hds1]; simp
  rw [← hds1] at hd1
  have x2 : ds1.getD b 0 < 2 ^ 63 := getD_lt hd1 (by decide)
  have e1 := or_pow (ds.getD a 0) b x1 (by omega)
  have e2 := or_pow (ds1.getD b 0) a x2 (by omega)
  have HL1 := Lib.hid hl1
  have HDS1 := Lib.hid hds1
  have HJ := Lib.hid hj
  clear hd hd1 HO hl1 hds1 hj
  go_enter Tryz.func26, Tryz.ntmps26
  go_wp2
  generalize w.alloc (.cells #[.int .i64 n, .slice (some ⟨g, 0, none⟩) ds.length cap] 26) = W0 at ht HO0 hal ⊢
  have c1 := HO0.cellAt (nats_getD ha)
  have f1 := HO0.frozenAt a
  have q1 := ht.c1
  have hs1 := HO0.stored a (.int .i64 ((ds.getD a 0 ||| 2 ^ b : Nat) : Int))
  rw [nats_set, ← HDS1.out] at hs1
  have G1 := Only.add (World.grownBy.trans (only_below (g := g) hal) hs1.2) (Below.refl _ _).drew
  have ht1 := (ht.grown hs1.2 (fun e => by injection e; omega)).step (Below.refl _ _).drew
  have HS1 := Lib.hid hs1.1.drew
  have HG1 := Lib.hid G1
  have HT1 := Lib.hid ht1
  generalize ds.getD a 0 = x at *
  clear hs1 G1 ht1 ht HO0
  go_still_tail 12, (by kernel_rfl)
  still_call (eqw (sOne_c b (by omega) _))
  repeat still_step
  refine wpStill_nil ?_
  change wpList _ _ _ _ _ (World.drew _)
  go_wp2
  generalize (W0.setCell ⟨g, a, none⟩ (.int .i64 ((x ||| 2 ^ b : Nat) : Int))).drew = W1 at HS1 HG1 HT1 ⊢
  clear c1 f1 q1
  have c2 := HS1.out.cellAt (nats_getD (show b < ds1.length by rw [HL1.out]; exact hb))
  have f2 := HS1.out.frozenAt b
  have q2 := HT1.out.c1
  have hs2 := HS1.out.stored b (.int .i64 ((ds1.getD b 0 ||| 2 ^ a : Nat) : Int))
  rw [nats_set, ← HJ.out] at hs2
  have HS2 := Lib.hid hs2.1.drew
  have HG2 := Lib.hid (Only.add (World.grownBy.trans HG1.out hs2.2) (Below.refl _ _).drew)
  generalize ds1.getD b 0 = y at *
  clear hs2
  go_still_tail 12, (by kernel_rfl)
  still_call (eqw (sOne_c a (by omega) _))
  repeat still_step
  refine wpStill_nil ?_
  change wpList _ _ _ _ _ (World.drew _)
  go_wp2
  go_end0
  exact ⟨⟨_, rfl⟩, HS2.out, HG2.out⟩
/-- What is drawn: masks of that many letters. -/
structure IsDrawn (n : Nat) (ds : List Nat) : Prop where
  len : ds.length = n
  lt : ∀ m ∈ ds, m < 2 ^ n
theorem freeL_drawn (n : Nat) : IsDrawn n (freeL n) :=
  ⟨freeL_length n, fun m hm => by
    simp only [freeL, List.mem_map, List.mem_range] at hm
    obtain ⟨i, hi, rfl⟩ := hm
    exact Nat.pow_lt_pow_right (by decide) hi⟩
theorem four_drawn : IsDrawn 4 [11, 7, 14, 13] := ⟨rfl, by decide⟩
theorem IsDrawn.join {n a b : Nat} {ds : List Nat} (h : IsDrawn n ds) (ha : a < n) (hb : b < n) : IsDrawn n (joinL ds a b) :=
  ⟨by rw [joinL_length]; exact h.len, joinL_lt h.lt ha hb⟩
theorem IsDrawn.lt63 {n : Nat} {ds : List Nat} (h : IsDrawn n ds) (hn : n ≤ 24) : ∀ m ∈ ds, m < 2 ^ 63 := fun m hm => Nat.lt_of_lt_of_le (h.lt m hm) (Nat.pow_le_pow_right (by decide) (by omega))

def OutDraw (most g : Nat) (w : World) (e : Ending) (w' : World) : Prop :=
  ∃ (n : Nat) (v : Value) (ds : List Nat), e = .returned (.agg #[.int .i64 (n : Int), v]) ∧ n ≤ most ∧ IsDrawn n ds ∧ Own w' w.heap.size 2 v (nats ds) ∧ Src w' g ∧ Only w w' g
structure St (w wr : World) (g X n : Nat) (v : Value) (ds : List Nat) : Prop where
  pair : Pair wr (w.heap.size + 1) X n v (nats ds)
  dr : IsDrawn n ds
  src : Src wr g
  only : Only w wr g
  two : Two wr w.heap.size (.int .i64 0) (.slice none 0 0)
  wX : w.heap.size < X
  gw : g < w.heap.size
theorem St.next {w wr wr' : World} {g X n : Nat} {v : Value} {ds : List Nat} (h : St w wr g X n v ds) (hs : Src wr' g) (ho : Only wr wr' g) : St w wr' g X n v ds :=
  ⟨h.pair.grown ho (by have := h.wX; have := h.gw; omega) (.inr (own_base h.pair.own (by have := h.gw; omega))), h.dr, hs, h.only.trans ho, h.two.grown ho (fun e => by injection e with e; have := h.gw; omega), h.wX, h.gw⟩
theorem St.join {w wr wr' : World} {g X n gv m cap a b : Nat} {ds : List Nat} (h : St w wr g X n (.slice (some ⟨gv, 0, none⟩) m cap) ds) (ha : a < n) (hb : b < n)
    (ho : Own wr' (w.heap.size + 1) 2 (.slice (some ⟨gv, 0, none⟩) m cap) (nats (joinL ds a b))) (hg : wr.grownBy wr' (some gv)) : St w wr' g X n (.slice (some ⟨gv, 0, none⟩) m cap) (joinL ds a b) := by
  have hgv := (World.ownsRow.lt h.pair.own gv rfl).1
  exact ⟨⟨h.pair.two.grown hg h.pair.off, ho, h.pair.off⟩, h.dr.join ha hb, h.src.far hg (by have := h.gw; omega), only_new h.only hg (by omega), h.two.grown hg (fun e => by injection e; omega), h.wX, h.gw⟩

set_option maxRecDepth 100000 in
theorem sDraw_c (g most : Nat) (h4 : 4 ≤ most) (h8 : most ≤ 8) (w : World) (hs : Src w g) : Calls Tryz.prog 12 #[.pointer (some ⟨g, 0, none⟩), .int .i64 (most : Int)] w (OutDraw most g w) := by
  have h4' : (4 : Int) ≤ (most : Int) := by omega
  have c1 := next_c g 6 (w.alloc (.cells #[.int .i64 0, .slice none 0 0] 26)) (hs.step ((Below.refl _ _).alloc (Nat.le_refl _) _)) (by omega)
  have ht := Two.new w (.int .i64 0) (.slice none 0 0) 26
  have o0 : Only w (w.alloc (.cells #[.int .i64 0, .slice none 0 0] 26)) g := only_below ((Below.refl _ _).alloc (Nat.le_refl _) _)
  have hg := hs.lt
  have HS := Lib.hid hs
  clear hs
  go_enter Tryz.func12, Tryz.ntmps12
  go_wp2_with fail
  refine c1.mono ?_
  rintro e w1 ⟨k, rfl, hk, hs1, o1⟩
  have ht1 := ht.grown o1 (fun e => by injection e; omega)
  have O1 := o0.trans o1
  clear c1 ht o1 o0
  by_cases hk0 : k = 0
  · subst hk0
    have hd : (((0 : Nat) : Int) == 0) = true := by simp
    have z0 := ht1.c0
    have z1 := ht1.c1
    have z2 := ht1.f0
    have z3 := ht1.f1
    have HS1 := Lib.hid hs1
    have HO1 := Lib.hid O1
    have hw1 := ht1.lt
    have hne : ¬ w.heap.size = w1.heap.size := by omega
    clear hs1 ht1 O1
    go_wp2
    refine bodyPost_ret_by (v := .agg #[.int .i64 4, .slice (some ⟨w1.heap.size, 0, none⟩) 4 4]) ?_ rfl ?_
    · simp [results, Tryz.results12, go_sem, *]
    · obtain ⟨wa, hwa⟩ : ∃ wa : World, wa = (w1.setCell ⟨w.heap.size, 0, none⟩ (.int .i64 4)).setCell ⟨w.heap.size, 1, none⟩ (.slice (some ⟨w1.heap.size, 0, none⟩) 4 4) := ⟨_, rfl⟩
      have hsa : wa.heap.size = w1.heap.size := by rw [hwa]; simp [go_sem]
      have S2 := (HS1.out.far (grown_set w1 w.heap.size 0 (.int .i64 4)) hg).far (grown_set _ w.heap.size 1 (.slice (some ⟨w1.heap.size, 0, none⟩) 4 4)) hg
      have O2 := only_new (only_new HO1.out (grown_set w1 w.heap.size 0 (.int .i64 4)) (Nat.le_refl _)) (grown_set _ w.heap.size 1 (.slice (some ⟨w1.heap.size, 0, none⟩) 4 4)) (Nat.le_refl _)
      rw [← hwa] at S2 O2 ⊢
      have hal := (Below.refl wa.heap.size wa).alloc (Nat.le_refl _) (.cells #[.int .i64 11, .int .i64 7, .int .i64 14, .int .i64 13] 2)
      have ho := World.ownsRow_lit (base := wa.heap.size) (e := 2) (size := 1) wa #[.int .i64 11, .int .i64 7, .int .i64 14, .int .i64 13] 4 (Nat.le_refl _) (by decide) rfl
      rw [hsa] at ho
      exact ⟨4, _, _, rfl, h4, four_drawn, Own.base ho (by omega), S2.step hal, O2.add hal⟩
  · have hd : ((k : Int) == 0) = false := by simp; omega
    have hK := Lib.hid hk
    have c2 := next_c g (most + 1) w1 hs1 (by omega)
    clear hk hs1
    go_wp2_with fail
    refine c2.mono ?_
    rintro e w2 ⟨n, rfl, hn, hs2, o2⟩
    have ht2 := ht1.grown o2 (fun e => by injection e; omega)
    have O2 := O1.trans o2
    clear c2 ht1 o2 O1
    have hn1 : n ≤ most := by omega
    clear hn
    go_upto_if 24 with fail
    go_cut [5] (fun s5 wx => ∃ n : Nat, s5 = .int .i64 (n : Int) ∧ n ≤ most ∧ Src wx g ∧ Only w wx g ∧ Two wx w.heap.size (.int .i64 0) (.slice none 0 0))
    case first =>
      have c3 := next_c g (most + 1) w2 hs2 (by omega)
      by_cases h2 : n < 2
      · have h2' : (n : Int) < 2 := by omega
        clear hs2
        go_wp2_with fail
        refine c3.mono ?_
        rintro e w3 ⟨n3, rfl, hn3, hs3, o3⟩
        have ht3 := ht2.grown o3 (fun e => by injection e; omega)
        have O3 := O2.trans o3
        have hn3' : n3 ≤ most := by omega
        clear hn3 ht2 o3 O2 c3
        have HX : Hid (n3 ≤ most ∧ Src w3 g ∧ Only w w3 g ∧ Two w3 w.heap.size (.int .i64 0) (.slice none 0 0)) := ⟨hn3', hs3, O3, ht3⟩
        clear hs3 O3 ht3
        go_wp2
        go_meet
        exact ⟨n3, rfl, HX.out⟩
      · have h2' : ¬ (n : Int) < 2 := by omega
        clear c3
        have HX : Hid (n ≤ most ∧ Src w2 g ∧ Only w w2 g ∧ Two w2 w.heap.size (.int .i64 0) (.slice none 0 0)) := ⟨hn1, hs2, O2, ht2⟩
        clear hs2 O2 ht2
        go_wp2
        go_meet
        exact ⟨n, rfl, HX.out⟩
    case rest =>
      clear hs2 O2 ht2 hn1
      clear n
      obtain ⟨n, rfl, hn, hs3, O3, ht3⟩ := hcut
      have hsz3 := ht3.lt
      have hgw : g < wc.heap.size := by omega
      have c4 := free_c n (by omega) wc
      go_wp2_with fail
      refine c4.mono ?_
      rintro e w4 ⟨v, rfl, HOv, B4⟩
      have hs4 := hs3.step B4
      have O4 := O3.add B4
      have ht4 := ht3.step B4
      obtain ⟨A, cp, rfl, _, _, _⟩ := HOv.cells
      have hz4 := B4.size
      clear hs3 O3 ht3 c4
      have hal := (Below.refl w4.heap.size w4).alloc (Nat.le_refl _) (.cells #[.int .i64 2, .int .i64 2, .int .i64 3, .int .i64 4] 2)
      have cpk := pick_c g (some ⟨w4.heap.size, 0, none⟩) 4 [2, 2, 3, 4] _ (hs4.step hal) (by decide) (by decide) (cells_new w4 [2, 2, 3, 4] 2 (g + 1) (by omega))
      have HO5 := Lib.hid (HOv.alloc (.cells #[.int .i64 2, .int .i64 2, .int .i64 3, .int .i64 4] 2))
      have O5 := O4.add hal
      have ht5 := ht4.step hal
      have hz5 : w4.heap.size + 1 = (w4.alloc (.cells #[.int .i64 2, .int .i64 2, .int .i64 3, .int .i64 4] 2)).heap.size := by simp
      clear hs4 O4 ht4 hal HOv
      go_wp2_with fail
      refine cpk.mono ?_
      rintro e w5 ⟨part, hpart, rfl, hs5, o5⟩
      have HO6 := Lib.hid (Own.only HO5.out o5 hgw)
      have O6 := O5.trans o5
      have ht6 := ht5.grown o5 (fun e => by injection e; omega)
      have hz6 := o5.size
      have hp4 : part ≤ 4 := by
        simp only [List.mem_cons, List.not_mem_nil, or_false] at hpart; omega
      have hgvX : (Value.slice A (nats (freeL n)).length cp).ownBlock ≠ some w5.heap.size := fun e => by
        have := (World.ownsRow.lt HO6.out w5.heap.size e).2; omega
      have hal6 := (Below.refl w5.heap.size w5).alloc (Nat.le_refl _) (.cells #[.int .i64 (n : Int), .slice A (nats (freeL n)).length cp] 26)
      have HST : Hid (St w (w5.alloc (.cells #[.int .i64 (n : Int), .slice A (nats (freeL n)).length cp] 26)) g w5.heap.size n (.slice A (nats (freeL n)).length cp) (freeL n)) :=
        ⟨⟨Two.new w5 _ _ _, Own.base (HO6.out.alloc _) (by omega), hgvX⟩, freeL_drawn n, hs5.step hal6, O6.add hal6, ht6.step hal6, by omega, hg⟩
      have hvl : Hid ((nats (freeL n)).length = n) := by rw [Hid, nats_length, freeL_length]
      clear cpk O5 ht5 HO5 o5 hpart HO6 O6 ht6 hs5 hal6 hgvX
      go_wp2
      generalize w5.alloc (.cells #[.int .i64 (n : Int), .slice A (nats (freeL n)).length cp] 26) = w6 at HST ⊢
      generalize w5.heap.size = X at HST ⊢
      generalize (nats (freeL n)).length = m at HST hvl ⊢
      go_loopw [8] (fun s8 wr => ∃ (a : Nat) (ds : List Nat), a ≤ n ∧ s8 = .int .i64 (a : Int) ∧ Hid (St w wr g X n (.slice A m cp) ds)) (fun s8 _ => n - (intOf s8).toNat)
      case atStart => exact ⟨0, _, Nat.zero_le _, rfl, HST⟩
      case round =>
        obtain ⟨a, ds, ha, rfl, HS8⟩ := hrel
        by_cases hlt : a < n
        · have hlt' : (a : Int) < n := by omega
          obtain ⟨wo, rfl⟩ : ∃ wo : World, wo = wr := ⟨_, rfl⟩
          go_wp2
          go_loopw [9] (fun s9 wr => ∃ (b : Nat) (ds : List Nat), b ≤ a ∧ s9 = .int .i64 (b : Int) ∧ Hid (St w wr g X n (.slice A m cp) ds)) (fun s9 _ => a - (intOf s9).toNat)
          case atStart => exact ⟨0, _, Nat.zero_le _, rfl, HS8⟩
          case round =>
            obtain ⟨b, ds, hb, rfl, HS9⟩ := hrel
            by_cases hlt2 : b < a
            · have hlt2' : (b : Int) < a := by omega
              have cn := next_c g part wr HS9.out.src (by omega)
              go_wp2_with fail
              refine cn.mono ?_
              rintro e w7 ⟨k, rfl, hk, hs7, o7⟩
              have HS10 := Lib.hid (HS9.out.next hs7 o7)
              clear cn hs7 o7 hk
              by_cases hk0 : k = 0
              · subst hk0
                have hd0 : (((0 : Nat) : Int) == 0) = true := by simp
                have q0 := HS10.out.pair.two.c0
                have q1 := HS10.out.pair.two.c1
                obtain ⟨gv, cap, hv, _, _⟩ := World.ownsRow.form HS10.out.pair.own (by rw [nats_length, HS10.out.dr.len]; omega)
                cases hv
                have hlen := HS10.out.dr.len
                have cj := sJoin_c n gv _ cp (w.heap.size + 1) a b ds w7 (HS10.out.dr.lt63 (by omega)) (by omega) (by omega) (by omega) HS10.out.pair.own
                have HL := Lib.hid hlen
                clear hlen
                go_wp2_with fail
                refine cj.mono ?_
                rintro e w8 ⟨⟨r, rfl⟩, hoj, hgj⟩
                have HS11 := Lib.hid (HS10.out.join (show a < n by omega) (show b < n by omega) hoj hgj)
                clear cj hoj hgj q0 q1
                go_wp2
                go_roundw
                case rel => exact ⟨b + 1, _, by omega, by go_num, HS11⟩
                case measure => simp [intOf]; omega
              · have hd0 : ((k : Int) == 0) = false := by simp; omega
                go_wp2
                go_roundw
                case rel => exact ⟨b + 1, _, by omega, by go_num, HS10⟩
                case measure => simp [intOf]; omega
            · have hlt2' : ¬ (b : Int) < a := by omega
              go_wp2
              go_roundw
              case rel => exact ⟨a + 1, _, by omega, by go_num, HS9⟩
              case measure => simp [intOf]; omega
        · have hlt' : ¬ (a : Int) < n := by omega
          have q0 := HS8.out.pair.two.c0
          have q1 := HS8.out.pair.two.c1
          have q2 := HS8.out.two.c0
          have q3 := HS8.out.two.c1
          have q4 := HS8.out.two.f0
          have q5 := HS8.out.two.f1
          go_wp2
          refine bodyPost_ret_by (v := .agg #[.int .i64 n, .slice A m cp]) ?_ rfl ?_
          · simp [results, Tryz.results12, go_sem, *]
          · have hb := own_base HS8.out.pair.own (show w.heap.size < w.heap.size + 1 by omega)
            exact ⟨n, _, ds, rfl, hn, HS8.out.dr, Own.base ((HS8.out.pair.own.kept (grown_set _ w.heap.size 0 _) (.inr hb)).kept (grown_set _ w.heap.size 1 _) (.inr hb)) (by omega),
              (HS8.out.src.far (grown_set _ w.heap.size 0 _) hg).far (grown_set _ w.heap.size 1 _) hg, only_new (only_new HS8.out.only (grown_set _ w.heap.size 0 _) (Nat.le_refl _)) (grown_set _ w.heap.size 1 _) (Nat.le_refl _)⟩
end Go.Proofs.YtopfcpnilblieaaGreatDoor
