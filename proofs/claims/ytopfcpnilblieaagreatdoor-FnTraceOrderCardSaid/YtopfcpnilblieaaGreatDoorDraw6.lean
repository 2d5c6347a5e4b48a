/- spec.DrawCompareTraces: an alphabet and two words are drawn -/
import Derived.Test.YtopfcpnilblieaaGreatDoorDraw5
import Derived.Deep.DeepCutAuto
namespace Go.Proofs.YtopfcpnilblieaaGreatDoor
open Go.RowKit

/-- A slice that is read, its cells in blocks from L on, below M. -/
def RdM (w : World) (L M : Nat) (v : Value) (xs : List Value) : Prop := ∃ A c, v = .slice A xs.length c ∧ xs.length ≤ c ∧ xs.length ≤ 9223372036854775807 ∧ Cells w L M A xs
theorem RdM.rd {w : World} {L M : Nat} {v : Value} {xs : List Value} (h : RdM w L M v xs) : Rd w M v xs := by
  obtain ⟨A, c, rfl, h1, h2, hc⟩ := h
  exact hc.rd h1 h2
theorem RdM.rdg {w : World} {g M : Nat} {v : Value} {xs : List Value} (h : RdM w (g + 1) M v xs) (hM : M ≤ w.heap.size) : RdG w g v xs := by
  obtain ⟨A, c, rfl, h1, h2, hc⟩ := h
  exact ⟨A, c, rfl, h1, h2, hc.mono (Nat.le_refl _) hM⟩
theorem RdG.rdm {w : World} {g : Nat} {v : Value} {xs : List Value} (h : RdG w g v xs) : RdM w (g + 1) w.heap.size v xs := h
theorem RdM.only {w w' : World} {g M : Nat} {v : Value} {xs : List Value} (h : RdM w (g + 1) M v xs) (ho : Only w w' g) : RdM w' (g + 1) M v xs := by
  obtain ⟨A, c, e, h1, h2, hc⟩ := h
  exact ⟨A, c, e, h1, h2, hc.grown ho (by omega)⟩
theorem RdM.below {w w' : World} {L M B : Nat} {v : Value} {xs : List Value} (h : RdM w L M v xs) (hb : Below B w w') (hB : M ≤ B) : RdM w' L M v xs := by
  obtain ⟨A, c, e, h1, h2, hc⟩ := h
  exact ⟨A, c, e, h1, h2, ⟨fun j u hj => by
    obtain ⟨b, o, e, hL, hB', hc'⟩ := hc.at_ j u hj
    exact ⟨b, o, e, hL, hB', (hb.cell (p := ⟨b, o + j, none⟩) (Nat.lt_of_lt_of_le hB' hB)).trans hc'⟩⟩⟩
theorem RdM.mono {w : World} {L M M' : Nat} {v : Value} {xs : List Value} (h : RdM w L M v xs) (hM : M ≤ M') : RdM w L M' v xs := by
  obtain ⟨A, c, e, h1, h2, hc⟩ := h
  exact ⟨A, c, e, h1, h2, hc.mono (Nat.le_refl _) hM⟩

/-- The draw's state: the source in block g, the alphabet in block X, both words; the second in a row of its own from M on. -/
structure Dc (w wr : World) (g X M n : Nat) (vx vu vv : Value) (ds us : List Nat) (vs : List Int) : Prop where
  gX : g < X
  wg : w.heap.size < g
  XM : X < M
  MW : M ≤ wr.heap.size
  src : Src wr g
  bel : Below w.heap.size w wr
  tx : Two wr X (.int .i64 (n : Int)) vx
  t2 : Two wr w.heap.size (.int .i64 0) (.slice none 0 0)
  rx : RdM wr (g + 1) M vx (nats ds)
  ru : RdM wr (g + 1) M vu (nats us)
  ov : Own wr M 2 vv (nums vs)
section
variable {w wr wr' : World} {g X M n : Nat} {vx vu vv : Value} {ds us : List Nat} {vs : List Int}
theorem Dc.next (h : Dc w wr g X M n vx vu vv ds us vs) (hs : Src wr' g) (ho : Only wr wr' g) : Dc w wr' g X M n vx vu vv ds us vs :=
  ⟨h.gX, h.wg, h.XM, Nat.le_trans h.MW ho.size, hs, h.bel.trans (Only.below ho (Nat.le_of_lt h.wg) h.bel.size), h.tx.grown ho (fun e => by injection e with e; have := h.gX; omega),
   h.t2.grown ho (fun e => by injection e with e; have := h.wg; omega), h.rx.only ho, h.ru.only ho, h.ov.only ho (by have := h.gX; have := h.XM; omega)⟩
theorem Dc.put {vv' : Value} {vs' : List Int} (h : Dc w wr g X M n vx vu vv ds us vs) (hb : Below M wr wr') (ho : Own wr' M 2 vv' (nums vs')) : Dc w wr' g X M n vx vu vv' ds us vs' := by
  have := h.gX; have := h.wg; have := h.XM
  exact ⟨h.gX, h.wg, h.XM, Nat.le_trans h.MW hb.size, h.src.below hb (by omega), h.bel.trans (hb.mono (by omega)), h.tx.below hb (by omega), h.t2.below hb (by omega), h.rx.below hb (Nat.le_refl _), h.ru.below hb (Nat.le_refl _), ho⟩
theorem Dc.new {vv' : Value} {vs' : List Int} (h : Dc w wr g X M n vx vu vv ds us vs) (hs : Src wr' g) (ho : Only wr wr' g) (hv : Own wr' wr.heap.size 2 vv' (nums vs')) : Dc w wr' g X wr.heap.size n vx vu vv' ds us vs' := by
  have h' := h.next hs ho
  exact ⟨h.gX, h.wg, Nat.lt_of_lt_of_le h.XM h.MW, ho.size, hs, h'.bel, h'.tx, h'.t2, h'.rx.mono h.MW, h'.ru.mono h.MW, hv⟩
end
/-- What is drawn. -/
def OutTwo (w : World) (e : Ending) (w' : World) : Prop :=
  ∃ (n : Nat) (vx vu vv : Value) (ds us : List Nat) (vs : List Int), e = .returned (.tuple #[.agg #[.int .i64 (n : Int), vx], vu, vv]) ∧ n ≤ 5 ∧ IsDrawn n ds ∧ us.length ≤ 8 ∧ (∀ a ∈ us, a < n) ∧ vs.length ≤ 9 ∧
    Rd w' w'.heap.size vx (nats ds) ∧ Rd w' w'.heap.size vu (nats us) ∧ Rd w' w'.heap.size vv (nums vs) ∧ Below w.heap.size w w'

set_option maxRecDepth 100000 in
set_option maxHeartbeats 2000000 in
theorem sDrawTwo_c (A : Option Addr) (m c : Nat) (w : World) (hm : m ≤ 4096) (hB : Bytes w w.heap.size A m) : Calls Tryz.prog 5 #[.slice A m c] w (OutTwo w) := by
  have hal := (Below.refl w.heap.size w).alloc (Nat.le_refl _) (.cells #[.int .i64 0, .slice none 0 0] 26)
  have cf := from_c A m c _ hm (hB.below hal (Nat.le_refl _) |>.mono (by simp))
  have ht := Two.new w (.int .i64 0) (.slice none 0 0) 26
  have hz : (w.alloc (.cells #[.int .i64 0, .slice none 0 0] 26)).heap.size = w.heap.size + 1 := by simp
  rw [hz] at cf
  have HAL := Lib.hid hal
  have HT := Lib.hid ht
  have HZ := Lib.hid hz
  clear hal hB ht hz
  go_enter Tryz.func5, Tryz.ntmps5
  go_wp2_with fail
  refine cf.mono ?_
  rintro e w1 ⟨rfl, hs1, b1⟩
  have ht1 := HT.out.below b1 (by omega)
  have HT1 := Lib.hid ht1
  have HB1 := Lib.hid (HAL.out.trans (b1.mono (by omega)))
  clear cf b1 HT HAL ht1
  have cd := sDraw_c (w.heap.size + 1) 5 (by omega) (by omega) w1 hs1
  have hs1 := hs1.lt
  go_wp2_with fail
  refine cd.mono ?_
  rintro e w2 ⟨n, vx, ds, rfl, hn, hdr, hox, hs2, o2⟩
  have hg1 := hs1
  have HT2 := Lib.hid (HT1.out.grown o2 (fun e => by injection e; omega))
  have HB2 := Lib.hid (HB1.out.trans (Only.below o2 (by omega) HB1.out.size))
  have hz12 := o2.size
  have hzX := hs2.lt
  have hrx := hox.rdg (g := w.heap.size + 1) hg1
  obtain ⟨Ax, cx, rfl, _, _, _⟩ := id hrx
  have hal3 := (Below.refl w2.heap.size w2).alloc (Nat.le_refl _) (.cells #[.int .i64 (n : Int), .slice Ax (nats ds).length cx] 26)
  have hs3 := hs2.step hal3
  have hrx3 := hrx.step hal3
  have hx3 := Two.new w2 (.int .i64 (n : Int)) (.slice Ax (nats ds).length cx) 26
  have HH3 : Hid (Below w.heap.size w (w2.alloc (.cells #[.int .i64 (n : Int), .slice Ax (nats ds).length cx] 26)) ∧ Two (w2.alloc (.cells #[.int .i64 (n : Int), .slice Ax (nats ds).length cx] 26)) w.heap.size (.int .i64 0) (.slice none 0 0)) :=
    ⟨HB2.out.trans (hal3.mono HB2.out.size), HT2.out.step hal3⟩
  have hzz : (w2.alloc (.cells #[.int .i64 (n : Int), .slice Ax (nats ds).length cx] 26)).heap.size = w2.heap.size + 1 := by simp
  clear o2 hox hs2 hal3 cd hrx
  go_wp2_with fail
  generalize w2.alloc (.cells #[.int .i64 (n : Int), .slice Ax (nats ds).length cx] 26) = w3 at hs3 hrx3 hx3 HH3 hzz ⊢
  have q0 := hx3.c0
  have q1 := hx3.c1
  have HHX := Lib.hid hx3
  have HZZ := Lib.hid hzz
  have hzz3 : w2.heap.size < w3.heap.size := by omega
  have cw := sRow_c (w.heap.size + 1) n 8 (.slice Ax (nats ds).length cx) (by omega) (by omega) w3 hs3
  clear hx3 hzz hs3
  go_wp2_with fail
  refine cw.mono ?_
  rintro e w4 ⟨vu, us, rfl, hul, huw, hou, hs4, o4⟩
  have hX4 := HHX.out.grown o4 (fun e => by injection e; omega)
  have hrx4 := hrx3.only o4
  have hru4 := hou.rdg (g := w.heap.size + 1) (by omega)
  have HH4 : Hid (Below w.heap.size w w4 ∧ Two w4 w.heap.size (.int .i64 0) (.slice none 0 0)) := ⟨HH3.out.1.trans (Only.below o4 (by omega) HH3.out.1.size), HH3.out.2.grown o4 (fun e => by injection e; omega)⟩
  have hz34 := o4.size
  have csh := sShuffle_c (w.heap.size + 1) n (.slice Ax (nats ds).length cx) vu ds us (by omega) hdr huw (by omega) w4 hs4 hrx4 hru4
  clear cw o4 hrx3 HH3 q0 q1 hs4 hou HHX HZZ
  have q0 := hX4.c0
  have q1 := hX4.c1
  have HX4 := Lib.hid hX4
  clear hX4
  go_wp2_with fail
  refine csh.mono ?_
  rintro e w5 ⟨vv, vs, rfl, hvl, hvw, hov, hs5, o5⟩
  have HX5 := Lib.hid (HX4.out.grown o5 (fun e => by injection e; omega))
  have hrx5 := hrx4.rdm.only o5
  have hru5 := hru4.rdm.only o5
  have HH5 : Hid (Below w.heap.size w w5 ∧ Two w5 w.heap.size (.int .i64 0) (.slice none 0 0)) := ⟨HH4.out.1.trans (Only.below o5 (by omega) HH4.out.1.size), HH4.out.2.grown o5 (fun e => by injection e; omega)⟩
  have hz45 := o5.size
  rw [nats_nums] at hov
  have hvl' : (vs.map fun (n : Nat) => (n : Int)).length ≤ 8 := by simp; omega
  generalize (vs.map fun (n : Nat) => (n : Int)) = zs at hov hvl'
  have HDC : Hid (Dc w w5 (w.heap.size + 1) w2.heap.size w4.heap.size n (.slice Ax (nats ds).length cx) vu vv ds us zs) :=
    ⟨hzX, by omega, by omega, hz45, hs5, HH5.out.1, HX5.out, HH5.out.2, hrx5, hru5, hov⟩
  have HDR := Lib.hid hdr
  have HUW := Lib.hid huw
  generalize w2.heap.size = X at HDC q0 q1 HX5 HX4 ⊢
  clear csh o5 hrx4 hru4 hov hs5 HX5 hrx5 hru5 HH5 hvw hvl hdr huw HH4 HX4 q0 q1
  have cn := next_c (w.heap.size + 1) 3 w5 HDC.out.src (by omega)
  go_wp2_with fail
  refine cn.mono ?_
  rintro e w6 ⟨k6, rfl, _, hs6, o6⟩
  have HD6 := Lib.hid (HDC.out.next hs6 o6)
  clear cn hs6 o6 HDC
  go_upto_if 26 with fail
  go_cut [8] (fun s8 wx => ∃ (M : Nat) (zs : List Int), Hid (Dc w wx (w.heap.size + 1) X M n (.slice Ax (nats ds).length cx) vu s8 ds us zs) ∧ zs.length ≤ 8)
  case first =>
    by_cases hk6 : k6 = 0
    · have hd6 : ¬ (0 : Int) < (k6 : Int) := by omega
      go_wp2
      go_meet
      exact ⟨_, zs, HD6, hvl'⟩
    · have hd6 : (0 : Int) < (k6 : Int) := by omega
      have co := own_c vu (us.map fun (n : Nat) => (n : Int)) w6 (by simp; omega) (by rw [← nats_nums]; exact (HD6.out.ru.rd.mono HD6.out.MW))
      go_wp2_with fail
      refine co.mono ?_
      rintro e w7 ⟨v7, rfl, ho7, b7⟩
      have HD7 := Lib.hid (HD6.out.new (HD6.out.src.step b7) (only_below b7) ho7)
      have hl7 : (us.map fun (n : Nat) => (n : Int)).length ≤ 8 := by simp; omega
      clear co ho7 b7
      have cn := next_c (w.heap.size + 1) 4 w7 HD7.out.src (by omega)
      go_wp2_with fail
      refine cn.mono ?_
      rintro e w8 ⟨k8, rfl, hk8, hs8, o8⟩
      have hk8' : k8 ≤ 4 := by omega
      clear hk8
      have HD8 := Lib.hid (HD7.out.next hs8 o8)
      clear cn hs8 o8
      generalize (us.map fun (n : Nat) => (n : Int)) = ys at hl7 HD8
      generalize w6.heap.size = M at HD8
      obtain ⟨Av, cv, rfl, _, _, _⟩ := HD8.out.ov.cells
      have hln : Hid ((nums ys).length = ys.length) := nums_length ys
      rw [nums_length] at HD8 ⊢
      obtain ⟨L, hL⟩ : ∃ L, L = ys.length := ⟨_, rfl⟩
      rw [← hL] at HD8 ⊢
      have hL8 : L ≤ 8 := by omega
      have HL := Lib.hid hL
      clear hL hl7 HD7 HD6 hln
      go_wp2
      go_loopw [9] (fun s9 wr => ∃ (i : Nat) (ys : List Int), i ≤ 4 ∧ s9 = .int .i64 (i : Int) ∧ Hid (L = ys.length) ∧ Hid (Dc w wr (w.heap.size + 1) X M n (.slice Ax (nats ds).length cx) vu (.slice Av L cv) ds us ys)) (fun s9 _ => (intOf s9).toNat)
      case atStart => exact ⟨k8, ys, hk8', rfl, HL, HD8⟩
      case round =>
        obtain ⟨i, ys, hi4, rfl, HL, HD⟩ := hrel
        by_cases hi : i = 0
        · have hd : ¬ (0 : Int) < (i : Int) := by omega
          clear hi
          go_wp2
          go_meet
          exact ⟨M, ys, HD, by rw [← HL.out]; exact hL8⟩
        · have hd : (0 : Int) < (i : Int) := by omega
          by_cases hl1 : L ≤ 1
          · have hd2 : ¬ (1 : Int) < (L : Int) := by omega
            go_wp2
            go_meet
            exact ⟨M, ys, HD, by rw [← HL.out]; exact hL8⟩
          · have hd2 : (1 : Int) < (L : Int) := by omega
            have hLy := HL.out
            obtain ⟨gv, cap, hv, hgv, _⟩ := World.ownsRow.form HD.out.ov (by rw [nums_length]; omega)
            simp only [Value.slice.injEq] at hv
            obtain ⟨hA, hmid, hc⟩ := hv
            clear hmid
            subst hA hc
            have cn := next_c (w.heap.size + 1) L wr HD.out.src (by omega)
            clear hLy
            go_wp2_with fail
            refine cn.mono ?_
            rintro e wa ⟨i1, rfl, hi1, hsa, oa⟩
            have HDa := Lib.hid (HD.out.next hsa oa)
            clear cn hsa oa
            have cn := next_c (w.heap.size + 1) L wa HDa.out.src (by omega)
            go_wp2_with fail
            refine cn.mono ?_
            rintro e wb ⟨i2, rfl, hi2, hsb, ob⟩
            have HDb := Lib.hid (HDa.out.next hsb ob)
            clear cn hsb ob HDa HD
            have hi1' : i1 < L := by omega
            have hi2' : i2 < L := by omega
            have hi1'' : (i1 : Int) < L := by omega
            have hi2'' : (i2 : Int) < L := by omega
            have c1 := HDb.out.ov.cellAt (nums_get (show i1 < ys.length by rw [← HL.out]; exact hi1'))
            have c2 := HDb.out.ov.cellAt (nums_get (show i2 < ys.length by rw [← HL.out]; exact hi2'))
            have f1 := HDb.out.ov.frozenAt i1
            generalize ys[i1]'(by rw [← HL.out]; exact hi1') = a1 at c1
            generalize ys[i2]'(by rw [← HL.out]; exact hi2') = a2 at c2
            have st1 := HDb.out.ov.stored i1 (.int .i64 a2)
            rw [nums_set] at st1
            have HDc := Lib.hid (HDb.out.put (below_grown st1.2 (by omega) HDb.out.MW) st1.1)
            have st2 := st1.1.stored i2 (.int .i64 a1)
            rw [nums_set] at st2
            have HDd := Lib.hid (HDc.out.put (below_grown st2.2 (by omega) HDc.out.MW) st2.1)
            have c3 := st1.1.cellAt (nums_get (show i2 < (ys.set i1 a2).length by simp; rw [← HL.out]; exact hi2'))
            have f2 := st1.1.frozenAt i2
            generalize (ys.set i1 a2)[i2]'(by simp; rw [← HL.out]; exact hi2') = a3 at c3
            have hlen : Hid (L = ((ys.set i1 a2).set i2 a1).length) := by rw [Hid, List.length_set, List.length_set]; exact HL.out
            clear st1 st2 HDc hi1 hi2
            go_wp2
            go_roundw
            case rel => exact ⟨i - 1, _, by omega, by go_num, hlen, HDd⟩
            case measure => simp only [intOf]; omega
  case rest =>
    clear HD6 hvl'
    obtain ⟨M, zs, HD, hzl⟩ := hcut
    have cn := next_c (w.heap.size + 1) 8 wc HD.out.src (by omega)
    go_wp2_with fail
    refine cn.mono ?_
    rintro e w9 ⟨k9, rfl, _, hs9, o9⟩
    have HD9 := Lib.hid (HD.out.next hs9 o9)
    clear cn hs9 o9 HD
    go_upto_if 65 with fail
    go_cut [8] (fun s8 wx => ∃ (M : Nat) (zs : List Int), Hid (Dc w wx (w.heap.size + 1) X M n (.slice Ax (nats ds).length cx) vu s8 ds us zs) ∧ zs.length ≤ 8)
    case first =>
      by_cases hk9 : k9 = 0
      · subst hk9
        have hd9 : (((0 : Nat) : Int) == 0) = true := by simp
        have q0 := HD9.out.tx.c0
        have q1 := HD9.out.tx.c1
        have cw := sRow_c (w.heap.size + 1) n 8 (.slice Ax (nats ds).length cx) (by omega) (by omega) w9 HD9.out.src
        go_wp2_with fail
        refine cw.mono ?_
        rintro e w10 ⟨v10, ws, rfl, hwl, _, how, hs10, o10⟩
        rw [nats_nums] at how
        have HD10 := Lib.hid (HD9.out.new hs10 o10 how)
        have hl10 : (ws.map fun (n : Nat) => (n : Int)).length ≤ 8 := by simp; omega
        clear cw how hs10 o10 q0 q1
        go_wp2
        go_meet
        exact ⟨_, _, HD10, hl10⟩
      · have hd9 : ((k9 : Int) == 0) = false := by simp; omega
        go_wp2
        go_meet
        exact ⟨_, _, HD9, hzl⟩
    case rest =>
      clear HD9 hzl
      clear zs M
      obtain ⟨M, zs, HD, hzl⟩ := hcut
      have cn := next_c (w.heap.size + 1) 24 wc HD.out.src (by omega)
      go_wp2_with fail
      refine cn.mono ?_
      rintro e w9 ⟨k9, rfl, _, hs9, o9⟩
      have HD9 := Lib.hid (HD.out.next hs9 o9)
      clear cn hs9 o9 HD
      obtain ⟨Av, cv, rfl, hcv, _, _⟩ := HD9.out.ov.cells
      have hend : ∀ (wr : World) (M : Nat) (vv : Value) (zs : List Int), Dc w wr (w.heap.size + 1) X M n (.slice Ax (nats ds).length cx) vu vv ds us zs → zs.length ≤ 9 →
          ∀ wf, wf = (wr.setCell ⟨w.heap.size, 0, none⟩ (.int .i64 (n : Int))).setCell ⟨w.heap.size, 1, none⟩ (.slice Ax (nats ds).length cx) → OutTwo w (.returned (.tuple #[.agg #[.int .i64 (n : Int), .slice Ax (nats ds).length cx], vu, vv])) wf := by
        rintro wr M vv zs hD hz wf rfl
        have g1 := grown_set wr w.heap.size 0 (.int .i64 (n : Int))
        have g2 := World.grownBy.trans g1 (grown_set _ w.heap.size 1 (.slice Ax (nats ds).length cx))
        have hsz := g2.size
        have hM := hD.MW
        have hd1 := hD.wg
        have hd2 := hD.gX
        have hd3 := hD.XM
        have far : ∀ v xs, RdM wr (w.heap.size + 1 + 1) M v xs → Rd _ _ v xs := fun v xs h => by
          obtain ⟨A, c, e, h1, h2, hc⟩ := h
          rw [e]; exact ((hc.grown g2 (by omega)).rd h1 h2).mono (Nat.le_trans hM hsz)
        exact ⟨n, _, _, _, ds, us, zs, rfl, hn, HDR.out, hul, HUW.out, hz, far _ _ hD.rx, far _ _ hD.ru, Own.rd (World.ownsRow.kept hD.ov g2 (.inr (own_base hD.ov (by omega)))), (hD.bel.setCell (p := ⟨w.heap.size, 0, none⟩) (by simp) _).setCell (p := ⟨w.heap.size, 1, none⟩) (by simp) _⟩
      have HE := Lib.hid hend
      clear hend
      rw [nums_length] at *
      by_cases hk9 : k9 = 0
      · subst hk9
        have hd9 : (((0 : Nat) : Int) == 0) = true := by simp
        have hroom : Room (nums zs).length := by rw [nums_length]; exact room (by omega)
        have HOv : Hid (Own w9 M 2 (.slice Av zs.length cv) (nums zs)) := HD9.out.ov
        have hMW := HD9.out.MW
        go_wp2_with (at_builtin; refine app_int HOv.out (Below.refl _ w9) hMW hroom 24 Tryz.underlying24 rfl _ _ rfl _ rfl rfl ?_; intro v1 w10 HO4 HB4 _ _; have HD10 := Lib.hid (HD9.out.put (vs' := zs ++ [9]) HB4 (by rw [nums_append]; exact HO4)); clear HO4 HB4; have q0 := HD10.out.tx.c0; have q1 := HD10.out.tx.c1; have z0 := HD10.out.t2.c0; have z1 := HD10.out.t2.c1; have z2 := HD10.out.t2.f0; have z3 := HD10.out.t2.f1)
        obtain ⟨A10, c10, hv10, _, _, _⟩ := HD10.out.ov.cells
        refine bodyPost_ret_by (v := .tuple #[.agg #[.int .i64 (n : Int), .slice Ax (nats ds).length cx], vu, v1]) ?_ rfl ?_
        · simp [results, Tryz.results5, go_sem, *]
        · exact HE.out w10 M v1 (zs ++ [9]) HD10.out (by simp; omega) _ rfl
      · have hd9 : ((k9 : Int) == 0) = false := by simp; omega
        have q0 := HD9.out.tx.c0
        have q1 := HD9.out.tx.c1
        have z0 := HD9.out.t2.c0
        have z1 := HD9.out.t2.c1
        have z2 := HD9.out.t2.f0
        have z3 := HD9.out.t2.f1
        go_wp2
        refine bodyPost_ret_by (v := .tuple #[.agg #[.int .i64 (n : Int), .slice Ax (nats ds).length cx], vu, .slice Av zs.length cv]) ?_ rfl ?_
        · simp [results, Tryz.results5, go_sem, *]
        · exact HE.out w9 M _ zs HD9.out (by omega) _ rfl
end Go.Proofs.YtopfcpnilblieaaGreatDoor
