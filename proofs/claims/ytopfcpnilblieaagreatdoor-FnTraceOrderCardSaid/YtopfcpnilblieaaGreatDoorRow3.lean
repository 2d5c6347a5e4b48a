/- laws.FnTraceOrder, walked -/
import Derived.Test.YtopfcpnilblieaaGreatDoorLaw5
import Derived.Test.YtopfcpnilblieaaGreatDoorDraw6
import Derived.Deep.RegionWith
import Derived.Deep.DeepCutAuto
import Derived.Deep.CutBlock
namespace Go.Proofs.YtopfcpnilblieaaGreatDoor
open Go.RowKit

theorem big_c (A : Option Addr) (n c : Nat) (w : World) : Calls Tryz.prog 4 #[.slice A n c] w fun e w' => e = .returned (.bool (decide ((4096 : Int) < n))) ∧ w = w' := by
  go_enter Tryz.func4, Tryz.ntmps4
  go_wp2
  go_ret
  exact ⟨rfl, rfl⟩

theorem own_empty {W : World} {base b : Nat} (h : W.heap[b]? = some (.cells #[] 2 (0, 0))) (hb : base ≤ b) : Own W base 2 (.slice (some ⟨b, 0, none⟩) 0 0) [] :=
  ⟨by simp, .inr ⟨b, 0, #[], rfl, hb, h, Nat.le_refl _, by decide, by simp, by simp⟩⟩

theorem grown_heap {w w' : World} {row : Option Nat} (hg : w.grownBy w' row) {b : Nat} {o : Obj} (h : w.heap[b]? = some o) (hne : some b ≠ row) : w'.heap[b]? = some o := by
  rw [hg.block b (Array.getElem?_eq_some_iff.1 h).1 hne]; exact h
theorem heap_lt {w : World} {b : Nat} {o : Obj} (h : w.heap[b]? = some o) : b < w.heap.size := (Array.getElem?_eq_some_iff.1 h).1
/-- A row that is not the one that an append wrote. -/
theorem own_ne {w : World} {base T b : Nat} {v : Value} {xs : List Value} (h : Own w base T v xs) (hb : w.heap.size ≤ b) : v.ownBlock ≠ some b := fun e => by
  have := (World.ownsRow.lt h b e).2; omega
theorem ne_after {w : World} {b : Nat} {p q : Value} (hn : p.ownBlock ≠ some b) (ha : q.ownBlock = p.ownBlock ∨ q.ownBlock = some w.heap.size) (hb : b < w.heap.size) : q.ownBlock ≠ some b := by
  rcases ha with e | e
  · rw [e]; exact hn
  · rw [e]; intro e2; injection e2; omega
abbrev EmptyO : Obj := .cells #[] 2 (0, 0)
structure L3 (w wr : World) (X n : Nat) (vx vu vv : Value) (ds us vs : List Int) : Prop where
  two : Two wr X (.int .i64 (n : Int)) vx
  rx : Rd wr wr.heap.size vx (nums ds)
  ru : Rd wr wr.heap.size vu (nums us)
  rv : Rd wr wr.heap.size vv (nums vs)
  bel : Below w.heap.size w wr
theorem L3.step {w wr wr' : World} {X n : Nat} {vx vu vv : Value} {ds us vs : List Int} (h : L3 w wr X n vx vu vv ds us vs) (hb : Below wr.heap.size wr wr') : L3 w wr' X n vx vu vv ds us vs :=
  ⟨h.two.step hb, h.rx.step hb, h.ru.step hb, h.rv.step hb, h.bel.trans (hb.mono h.bel.size)⟩
theorem L3.cmp {w wr : World} {X n : Nat} {vx vu vv : Value} {ds us vs : List Int} (h : L3 w wr X n vx vu vv ds us vs) (hT : Tab w) :
    Calls Tryz.prog 6 #[.agg #[.int .i64 (n : Int), vx], vu, vv] wr fun e w' => e = .returned (.tuple #[.int .i64 (cmpRes n ds us vs), .int .i64 (checkB n ds [us, vs])]) ∧ L3 w w' X n vx vu vv ds us vs :=
  (CompareTraces_c n _ _ _ ds us vs wr (hT.below h.bel) h.rx h.ru h.rv).mono fun _ _ ⟨he, hb⟩ => ⟨he, h.step hb⟩
theorem L3.back {w wr : World} {X n : Nat} {vx vu vv : Value} {ds us vs : List Int} (h : L3 w wr X n vx vu vv ds us vs) (hT : Tab w) :
    Calls Tryz.prog 6 #[.agg #[.int .i64 (n : Int), vx], vv, vu] wr fun e w' => e = .returned (.tuple #[.int .i64 (cmpRes n ds vs us), .int .i64 (checkB n ds [vs, us])]) ∧ L3 w w' X n vx vu vv ds us vs :=
  (CompareTraces_c n _ _ _ ds vs us wr (hT.below h.bel) h.rx h.rv h.ru).mono fun _ _ ⟨he, hb⟩ => ⟨he, h.step hb⟩
theorem L3.spec {w wr : World} {X n : Nat} {vx vu vv : Value} {ds us vs : List Int} (h : L3 w wr X n vx vu vv ds us vs) :
    Calls Tryz.prog 7 #[.agg #[.int .i64 (n : Int), vx], vu, vv] wr fun e w' => e = .returned (.tuple #[.int .i64 (cmpResS n ds us vs), .int .i64 (checkB n ds [us, vs])]) ∧ L3 w w' X n vx vu vv ds us vs :=
  (sCompareTraces_c n _ _ _ ds us vs wr h.rx h.ru h.rv).mono fun _ _ ⟨he, hb⟩ => ⟨he, h.step hb⟩
theorem L3.same {w wr : World} {X n : Nat} {vx vu vv : Value} {ds us vs : List Int} (h : L3 w wr X n vx vu vv ds us vs) (hT : Tab w) :
    Calls Tryz.prog 8 #[.agg #[.int .i64 (n : Int), vx], vu, vv] wr fun e w' => e = .returned (.tuple #[.bool (sameRes n ds us vs), .int .i64 (checkB n ds [us, vs])]) ∧ L3 w w' X n vx vu vv ds us vs :=
  (AreSameTrace_c n _ _ _ ds us vs wr (hT.below h.bel) h.rx h.ru h.rv).mono fun _ _ ⟨he, hb⟩ => ⟨he, h.step hb⟩

set_option maxRecDepth 100000 in
set_option maxHeartbeats 4000000 in
theorem law3_c (A : Option Addr) (m c : Nat) (w : World) (hT : Tab w) (hB : Bytes w w.heap.size A m) : Calls Tryz.prog 3 #[.slice A m c] w fun e w' => e = .returned (.bool true) ∧ Below w.heap.size w w' := by
  have cb := big_c A m c w
  by_cases hbig : (4096 : Int) < m
  · rw [decide_eq_true hbig] at cb
    clear hT hB hbig
    go_enter Tryz.func3, Tryz.ntmps3
    go_wp2_with (go_at_call 4; refine cb.mono ?_; rintro e w' ⟨rfl, rfl⟩)
    go_ret
    exact ⟨rfl, Below.refl _ _⟩
  rw [decide_eq_false hbig] at cb
  have hm : m ≤ 4096 := by omega
  have cdr := sDrawTwo_c A m c w hm hB
  have HT := Lib.hid hT
  have HBY := Lib.hid hB
  clear hT hB hbig
  go_enter Tryz.func3, Tryz.ntmps3
  go_wp2_with (go_at_call 4; refine cb.mono ?_; rintro e w' ⟨rfl, rfl⟩)
  refine cdr.mono ?_
  rintro e w1 ⟨n, vx, vu, vv, ds, us, vs, rfl, hn, hdr, hul, huw, hvl, rx, ru, rv, B1⟩
  rw [nats_nums] at rx ru
  have hun : ∀ x ∈ (us.map fun (n : Nat) => (n : Int)), 0 ≤ x := fun x hx => by obtain ⟨a, _, rfl⟩ := List.mem_map.1 hx; omega
  have hul' : (us.map fun (n : Nat) => (n : Int)).length ≤ 8 := by simpa using hul
  clear cdr cb hdr huw hul hun
  generalize (ds.map fun (n : Nat) => (n : Int)) = dsI at rx
  generalize (us.map fun (n : Nat) => (n : Int)) = usI at ru hul'
  have halX := (Below.refl w1.heap.size w1).alloc (Nat.le_refl _) (.cells #[.int .i64 (n : Int), vx] 26)
  have HS : Hid (L3 w _ w1.heap.size n vx vu vv dsI usI vs) := ⟨Two.new w1 (.int .i64 (n : Int)) vx 26, rx.step halX, ru.step halX, rv.step halX, B1.trans (halX.mono B1.size)⟩
  obtain ⟨Ax, cx, rfl, _, _, _⟩ := rx.cells
  obtain ⟨Au, cu, rfl, _, _, _⟩ := ru.cells
  obtain ⟨Av, cv, rfl, _, _, _⟩ := rv.cells
  simp only [nums_length] at HS ⊢
  clear rx ru rv halX B1
  go_wp2_with fail
  generalize w1.alloc (.cells #[.int .i64 (n : Int), .slice Ax dsI.length cx] 26) = w2 at HS ⊢
  generalize w1.heap.size = X at HS ⊢
  refine (HS.out.cmp HT.out).mono ?_
  rintro e w3 ⟨rfl, hs3⟩
  have q0 := hs3.two.c0
  have q1 := hs3.two.c1
  have HS := Lib.hid hs3
  clear hs3
  go_wp2_with fail
  refine HS.out.spec.mono ?_
  rintro e w4 ⟨rfl, hs4⟩
  have HS := Lib.hid hs4
  clear hs4 q0 q1
  by_cases hz : checkB n dsI [usI, vs] = 0
  · have HL := Lib.hid (order_law hz)
    rw [hz]
    generalize cmpRes n dsI usI vs = o at HL ⊢
    generalize cmpResS n dsI usI vs = o'
    have q0 := HS.out.two.c0
    have q1 := HS.out.two.c1
    have HZ := Lib.hid hz
    clear hz
    go_wp2_with fail
    have cbk := HS.out.back HT.out
    rw [HL.out.back.1, HL.out.back.2] at cbk
    refine cbk.mono ?_
    rintro e w5 ⟨rfl, hs5⟩
    have q0 := hs5.two.c0
    have q1 := hs5.two.c1
    have HS := Lib.hid hs5
    clear hs5 cbk
    go_wp2_with fail
    have csm := HS.out.same HT.out
    rw [HZ.out, HL.out.same] at csm
    refine csm.mono ?_
    rintro e w6 ⟨rfl, hs6⟩
    have q0 := hs6.two.c0
    have q1 := hs6.two.c1
    have HS := Lib.hid hs6
    clear hs6 csm
    go_upto_region 12 with fail
    go_cut [89] (fun s89 wx => s89 = .bool false ∧ wx = w6)
    case first =>
      obtain rfl | rfl | rfl := HL.out.range
      all_goals
        go_wp2_with fail
        go_meet
        exact ⟨rfl, rfl⟩
    case rest =>
      obtain ⟨rfl, rfl⟩ := hcut
      have hro := roll_c A m c 181 wc hm (HBY.out.below HS.out.bel (Nat.le_refl _) |>.mono HS.out.bel.size)
      go_wp2_with fail
      refine hro.mono ?_
      rintro e w7 ⟨rfl, hsrc, b7⟩
      have HB7 := Lib.hid b7
      have hsz7 := hsrc.lt
      have hXlt := HS.out.two.lt
      clear hro b7 q0 q1
      generalize hgc : wc.heap.size = g at hsrc HB7 hsz7 hXlt ⊢
      have HGC := Lib.hid hgc
      clear hgc
      have HSX : Hid (∀ W, Below g wc W → L3 w W X n (.slice Ax dsI.length cx) (.slice Au usI.length cu) (.slice Av vs.length cv) dsI usI vs) := fun W hW => HS.out.step (by rw [HGC.out]; exact hW)
      have ho := World.ownsRow_lit (base := w7.heap.size) (e := 2) (size := 1) w7 #[] 0 (Nat.le_refl _) (by decide) rfl
      have hal := (Below.refl w7.heap.size w7).alloc (Nat.le_refl _) (.cells #[] 2)
      have hs8 := hsrc.step hal
      have HO8 : Hid (Own (w7.alloc (.cells #[] 2)) w7.heap.size 2 (.slice (some ⟨w7.heap.size, 0, none⟩) 0 0) (nums [])) := by simpa [Hid, Own, nums] using ho
      have HB8 := Lib.hid (HB7.out.trans (hal.mono (by omega)))
      clear ho hal hsrc HS HB7
      have cbl := below_c g 4 (w7.alloc (.cells #[] 2)) hs8 (by omega)
      clear hs8
      go_wp2_with fail
      refine cbl.mono ?_
      rintro e w9 ⟨k, rfl, hk, hs9, o9⟩
      have hk4 : k ≤ 3 := by omega
      have HX9 : Hid (Own w9 w7.heap.size 2 (.slice (some ⟨w7.heap.size, 0, none⟩) 0 0) (nums []) ∧ Src w9 g ∧ Below g wc w9) := ⟨Own.only HO8.out o9 hsz7, hs9, HB8.out.trans (Only.below o9 (Nat.le_refl _) (by rw [← HGC.out]; exact HB8.out.size))⟩
      have hB9 : w7.heap.size ≤ w9.heap.size := Nat.le_trans (by simp) o9.size
      clear cbl hk hs9 o9 HO8 HB8
      generalize w7.heap.size = B at hsz7 HX9 hB9 ⊢
      go_upto_block 0 with fail
      go_cut [15] (fun s15 wx => ∃ ts : List Int, ts.length ≤ 3 ∧ sliceLn s15 = ts.length ∧ Hid (Own wx B 2 s15 (nums ts) ∧ B ≤ wx.heap.size ∧ (∀ y ∈ ts, 0 ≤ y ∧ y < (n : Int)) ∧ (Src wx g ∧ Below g wc wx)))
      case first =>
        go_wp2_with fail
        go_loopw [15, 16] (fun s15 s16 wr => ∃ (i : Nat) (ts : List Int), i + ts.length ≤ 3 ∧ s16 = .int .i64 (i : Int) ∧ Own wr B 2 s15 (nums ts) ∧ B ≤ wr.heap.size ∧ Hid (∀ x ∈ ts, 0 ≤ x ∧ x < (n : Int)) ∧ Hid (Src wr g ∧ Below g wc wr)) (fun _ s16 _ => (intOf s16).toNat)
        case atStart => exact ⟨k, [], by simpa using hk4, rfl, HX9.out.1, hB9, by simp [Hid], HX9.out.2⟩
        case round =>
          obtain ⟨i, ts, hi, rfl, hown, hBw, HTS, HW⟩ := hrel
          have q0 := (HSX.out wr HW.out.2).two.c0
          have q1 := (HSX.out wr HW.out.2).two.c1
          have hbs := HW.out.2.size
          obtain ⟨At, ct, rfl, _, _, _⟩ := hown.cells
          have HOW := Lib.hid hown
          rw [nums_length] at *
          clear hown
          by_cases hgo : 0 < i ∧ 0 < n
          · obtain ⟨hi0, hn0⟩ := hgo
            have d1 : (0 : Int) < (i : Int) := by omega
            have d2 : (0 : Int) < (n : Int) := by omega
            have cbl := below_c g n wr HW.out.1 (by omega)
            go_wp2_with fail
            refine cbl.mono ?_
            rintro e wa ⟨x, rfl, hx, hsa, oa⟩
            have HOa := Lib.hid (Own.only HOW.out oa hsz7)
            have HWa : Hid (Src wa g ∧ Below g wc wa) := ⟨hsa, HW.out.2.trans (Only.below oa (Nat.le_refl _) (by rw [← HGC.out]; exact HW.out.2.size))⟩
            have hxn : (0 : Int) ≤ (x : Int) ∧ (x : Int) < (n : Int) := by omega
            have hBa : B ≤ wa.heap.size := Nat.le_trans hBw oa.size
            have hroom : Room (nums ts).length := by rw [nums_length]; exact room (by omega)
            clear cbl hsa oa hx
            go_wp2_with (at_builtin; refine app_int HOa.out (Below.refl _ wa) hBa hroom 24 Tryz.underlying24 rfl _ _ rfl _ rfl rfl ?_; intro v1 wb HO4 HB4 _ _)
            have HQ : Hid (Own wb B 2 v1 (nums (ts ++ [(x : Int)])) ∧ B ≤ wb.heap.size ∧ (∀ y ∈ ts ++ [(x : Int)], 0 ≤ y ∧ y < (n : Int)) ∧ (Src wb g ∧ Below g wc wb)) :=
              ⟨by rw [nums_append]; exact HO4, Nat.le_trans hBa HB4.size, fun y hy => by
                rcases List.mem_append.1 hy with h | h
                · exact HTS.out y h
                · simp at h; omega, HWa.out.1.below HB4 hsz7, HWa.out.2.trans (HB4.mono (by omega))⟩
            clear HO4 HB4
            go_roundw
            case rel => exact ⟨i - 1, ts ++ [(x : Int)], by simp; omega, by go_num, HQ.out.1, HQ.out.2.1, HQ.out.2.2.1, HQ.out.2.2.2⟩
            case measure => simp only [intOf]; omega
          · have hts3 : ts.length ≤ 3 := by omega
            by_cases hi0 : i = 0
            · have d1 : ¬ (0 : Int) < (i : Int) := by omega
              clear hi0 hgo
              go_wp2
              go_meet
              exact ⟨ts, hts3, rfl, ⟨HOW.out, hBw, HTS.out, HW.out⟩⟩
            · have d1 : (0 : Int) < (i : Int) := by omega
              have d2 : ¬ (0 : Int) < (n : Int) := by omega
              clear hi0 hgo
              go_wp2
              go_meet
              exact ⟨ts, hts3, rfl, ⟨HOW.out, hBw, HTS.out, HW.out⟩⟩
      case rest =>
        clear HX9 hB9
        obtain ⟨ts, hts3, hsl, HQ⟩ := hcut
        have HS := Lib.hid (HSX.out _ HQ.out.2.2.2.2)
        have HO := Lib.hid HQ.out.1
        have HTS := Lib.hid HQ.out.2.2.1
        clear HQ HSX
        obtain ⟨At, ct, rfl, _, _, _⟩ := HO.out.cells
        rw [nums_length] at *
        have l1 : ¬ (24 : Int) < (usI.length : Int) + (ts.length : Int) := by omega
        have l2 : ¬ (24 : Int) < (vs.length : Int) + (ts.length : Int) := by omega
        clear hsl
        have q0 := HS.out.two.c0
        have q1 := HS.out.two.c1
        have hCu : ∀ W, Below wc.heap.size wc W → Cells W 0 wc.heap.size Au (nums usI) := fun W hW => by
          obtain ⟨A', c', e, _, _, hc⟩ := (HS.out.ru.below hW).cells
          simp only [Value.slice.injEq] at e
          rw [e.1]; exact hc
        have hCv : ∀ W, Below wc.heap.size wc W → Cells W 0 wc.heap.size Av (nums vs) := fun W hW => by
          obtain ⟨A', c', e, _, _, hc⟩ := (HS.out.rv.below hW).cells
          simp only [Value.slice.injEq] at e
          rw [e.1]; exact hc
        have hCt : ∀ W, Below wc.heap.size wc W → Cells W 0 wc.heap.size At (nums ts) := fun W hW => by
          obtain ⟨A', c', e, _, _, hc⟩ := (HO.out.rd.below hW).cells
          simp only [Value.slice.injEq] at e
          rw [e.1]; exact hc
        have hAu : Au = none → usI = [] := fun e => nums_nil' ((by simpa [nums_length] using HS.out.ru : Rd wc wc.heap.size (.slice Au (nums usI).length cu) (nums usI)).nil_of e)
        have hAv : Av = none → vs = [] := fun e => nums_nil' ((by simpa [nums_length] using HS.out.rv : Rd wc wc.heap.size (.slice Av (nums vs).length cv) (nums vs)).nil_of e)
        have hAt : At = none → ts = [] := fun e => nums_nil' ((by simpa [nums_length] using HO.out.rd : Rd wc wc.heap.size (.slice At (nums ts).length ct) (nums ts)).nil_of e)
        have HCu := Lib.hid hCu
        have HCv := Lib.hid hCv
        have HCt := Lib.hid hCt
        have HAu := Lib.hid hAu
        have HAv := Lib.hid hAv
        have HAt := Lib.hid hAt
        have HS2 : Hid (∀ W, Below wc.heap.size wc W → W.cell? ⟨X, 0, none⟩ = some (.int .i64 (n : Int)) ∧ W.cell? ⟨X, 1, none⟩ = some (.slice Ax dsI.length cx) ∧ Below wc.heap.size wc W) := fun W hW =>
          ⟨(hW.cell (p := ⟨X, 0, none⟩) HS.out.two.lt).trans HS.out.two.c0, (hW.cell (p := ⟨X, 1, none⟩) HS.out.two.lt).trans HS.out.two.c1, hW⟩
        have hb0 := Lib.hid ((Below.refl wc.heap.size wc).drew)
        have hb1 := Lib.hid (((Below.refl wc.heap.size wc).alloc (Nat.le_refl _) EmptyO).drew)
        have hb2 := Lib.hid ((((Below.refl wc.heap.size wc).alloc (Nat.le_refl _) EmptyO).alloc (by simp) EmptyO).drew)
        have he12 : ((wc.alloc EmptyO).alloc EmptyO).drew.heap[wc.heap.size]? = some EmptyO := by
          show ((wc.alloc EmptyO).alloc EmptyO).heap[wc.heap.size]? = some EmptyO
          have h1 := heap_alloc_new wc EmptyO
          have h2 := Below.heap_alloc (wc.alloc EmptyO) EmptyO wc.heap.size (by simp)
          rw [h2]; exact h1
        have he21 : ((wc.alloc EmptyO).alloc EmptyO).drew.heap[wc.heap.size + 1]? = some EmptyO := by
          show ((wc.alloc EmptyO).alloc EmptyO).heap[wc.heap.size + 1]? = some EmptyO
          have h1 := heap_alloc_new (wc.alloc EmptyO) EmptyO
          simpa using h1
        have rm1 : Room2 ([] : List Value).length usI.length := room2 (by simp; omega)
        have rm2 : Room2 (nums usI).length ts.length := by rw [nums_length]; exact room2 (by omega)
        have rm3 : Room2 ([] : List Value).length vs.length := room2 (by simp; omega)
        have rm4 : Room2 (nums vs).length ts.length := by rw [nums_length]; exact room2 (by omega)
        have HAPP := Lib.hid (HL.out.app ts (by omega) (by omega) HTS.out)
        have hcall : Hid (∀ W p r, Below wc.heap.size wc W → Own W wc.heap.size 2 p (nums (usI ++ ts)) → Own W wc.heap.size 2 r (nums (vs ++ ts)) →
            Calls Tryz.prog 6 #[.agg #[.int .i64 (n : Int), .slice Ax dsI.length cx], p, r] W fun e w' => e = .returned (.tuple #[.int .i64 o, .int .i64 0]) ∧ Below wc.heap.size wc w') := fun W p r hW hp hr => by
          have h := CompareTraces_c n _ _ _ dsI (usI ++ ts) (vs ++ ts) W (HT.out.below (HS.out.bel.trans (hW.mono HS.out.bel.size))) ((HS.out.rx.below hW).mono hW.size) hp.rd hr.rd
          rw [HAPP.out.1, HAPP.out.2.2.1] at h
          exact h.mono fun _ _ ⟨he, hb⟩ => ⟨he, hW.trans (hb.mono hW.size)⟩
        clear hCu hCv hCt hAu hAv hAt
        go_upto_region 22 with fail
        go_cut [17, 18] (fun s17 s18 wx => s17 = .int .i64 o ∧ s18 = .int .i64 0 ∧ Hid (Below wc.heap.size wc wx))
        case first =>
          go_region_held3 (fun W => W.cell? ⟨X, 0, none⟩ = some (.int .i64 (n : Int)) ∧ W.cell? ⟨X, 1, none⟩ = some (.slice Ax dsI.length cx) ∧ Below wc.heap.size wc W)
            (first | exact HS2.out _ hbf | exact HS2.out _ hb0.out | exact HS2.out _ hb1.out | exact HS2.out _ hb2.out | exact HS2.out _ hbp1 | exact HS2.out _ (hbp1.alloc hbp1.size _) | exact HS2.out _ hbp2 | exact HS2.out _ (hbp2.alloc hbp2.size _) | exact HS2.out _ hbr1 | exact HS2.out _ hbr2)
            (first
              | (refine step_app_all (w0 := wc) (ys := usI) (own_empty (b := wc.heap.size) (heap_alloc_new _ _) (Nat.le_refl _)) hb1.out (Nat.le_refl _) hb1.out.size (HCu.out _ hb1.out) HAu.out rm1 24 Tryz.underlying24 (by rfl) _ _ (by rfl) (by rfl) (by rfl) ?_; intro p1 wp1 hop1 hbp1 hgp1 hat1)
              | (refine step_app_all (w0 := wc) (ys := usI) (own_empty (b := wc.heap.size) he12 (Nat.le_refl _)) hb2.out (Nat.le_refl _) hb2.out.size (HCu.out _ hb2.out) HAu.out rm1 24 Tryz.underlying24 (by rfl) _ _ (by rfl) (by rfl) (by rfl) ?_; intro p1 wp1 hop1 hbp1 hgp1 hat1; have hem := grown_heap hgp1 he21 (by simp [Value.ownBlock]); have hnp : p1.ownBlock ≠ some (wc.heap.size + 1) := by (rcases hat1 with h | h <;> rw [h] <;> simp [Value.ownBlock]))
              | (refine step_app_all (w0 := wc) (ys := usI) (own_empty (b := wc.heap.size + 1) he21 (by omega)) hb2.out (Nat.le_refl _) hb2.out.size (HCu.out _ hb2.out) HAu.out rm1 24 Tryz.underlying24 (by rfl) _ _ (by rfl) (by rfl) (by rfl) ?_; intro p1 wp1 hop1 hbp1 hgp1 hat1; have hem := grown_heap hgp1 he12 (by simp [Value.ownBlock]); have hnp : p1.ownBlock ≠ some wc.heap.size := by (rcases hat1 with h | h <;> rw [h] <;> simp [Value.ownBlock] <;> omega))
              | (refine step_app_all (w0 := wc) (ys := ts) hop1 hbp1 (Nat.le_refl _) hbp1.size (HCt.out _ hbp1) HAt.out rm2 24 Tryz.underlying24 (by rfl) _ _ (by rfl) (by rfl) (by rfl) ?_; intro p2 wp2 hop2 hbp2 hgp2 hat2; try (have hnp2 := ne_after hnp hat2 (heap_lt hem); have hem := grown_heap hgp2 hem (Ne.symm hnp); have hnp := hnp2))
              | (refine step_app_all (w0 := wc) (ys := ts) (hop1.alloc EmptyO) (hbp1.alloc hbp1.size EmptyO) (Nat.le_refl _) (hbp1.alloc hbp1.size EmptyO).size (HCt.out _ (hbp1.alloc hbp1.size EmptyO)) HAt.out rm2 24 Tryz.underlying24 (by rfl) _ _ (by rfl) (by rfl) (by rfl) ?_; intro p2 wp2 hop2 hbp2 hgp2 hat2; have hsz1 := hbp1.size; have hem := grown_heap hgp2 (heap_alloc_new wp1 EmptyO) (Ne.symm (own_ne hop1 (Nat.le_refl _))); have hnp : p2.ownBlock ≠ some wp1.heap.size := by (rcases hat2 with h | h; rw [h]; exact own_ne hop1 (Nat.le_refl _); rw [h]; simp))
              | (refine step_app_all (w0 := wc) (ys := vs) (own_empty hem (by omega)) hbp2 (Nat.le_refl _) hbp2.size (HCv.out _ hbp2) HAv.out rm3 24 Tryz.underlying24 (by rfl) _ _ (by rfl) (by rfl) (by rfl) ?_; intro r1 wr1 hor1 hbr1 hgr1 har1; have hop3 := World.ownsRow.kept hop2 hgr1 (.inr hnp); have hnr : p2.ownBlock ≠ r1.ownBlock := by (rcases har1 with h | h <;> rw [h]; exact hnp; exact own_ne hop2 (Nat.le_refl _)))
              | (refine step_app_all (w0 := wc) (ys := vs) (own_empty (b := wp2.heap.size) (heap_alloc_new wp2 EmptyO) hbp2.size) (hbp2.alloc hbp2.size EmptyO) (Nat.le_refl _) (hbp2.alloc hbp2.size EmptyO).size (HCv.out _ (hbp2.alloc hbp2.size EmptyO)) HAv.out rm3 24 Tryz.underlying24 (by rfl) _ _ (by rfl) (by rfl) (by rfl) ?_; intro r1 wr1 hor1 hbr1 hgr1 har1; have hop3 := World.ownsRow.kept (hop2.alloc EmptyO) hgr1 (.inr (own_ne hop2 (Nat.le_refl _))); have hnr : p2.ownBlock ≠ r1.ownBlock := by (rcases har1 with h | h <;> rw [h]; exact own_ne hop2 (Nat.le_refl _); exact own_ne hop2 (by simp)))
              | (refine step_app_all (w0 := wc) (ys := ts) hor1 hbr1 (Nat.le_refl _) hbr1.size (HCt.out _ hbr1) HAt.out rm4 24 Tryz.underlying24 (by rfl) _ _ (by rfl) (by rfl) (by rfl) ?_; intro r2 wr2 hor2 hbr2 hgr2 har2; have hop4 := World.ownsRow.kept hop3 hgr2 (.inr hnr))
              | (go_simp; go_at_call 6; refine (hcall.out _ _ _ hbr2 (by rw [nums_append]; simpa [Own] using hop4) (by rw [nums_append]; simpa [Own] using hor2)).mono ?_; rintro e wf ⟨rfl, hbf⟩))
          all_goals
            go_wp2_with fail
            go_meet
            exact ⟨rfl, rfl, hbf⟩
        case rest =>
          clear q0 q1 he12 he21
          obtain ⟨rfl, rfl, HBC⟩ := hcut
          have HS3 := Lib.hid (HS.out.step HBC.out)
          have HO3 := Lib.hid (HO.out.below HBC.out (Nat.le_refl _))
          clear HCu HCv HCt hb0 hb1 hb2 HS2 hcall HS HO HBC
          have q0 := HS3.out.two.c0
          have q1 := HS3.out.two.c1
          have HCu : Hid (∀ W, Below wc.heap.size wc W → Cells W 0 wc.heap.size Au (nums usI)) := fun W hW => by
            obtain ⟨A', c', e, _, _, hc⟩ := (HS3.out.ru.below hW).cells
            simp only [Value.slice.injEq] at e
            rw [e.1]; exact hc
          have HCt : Hid (∀ W, Below wc.heap.size wc W → Cells W 0 wc.heap.size At (nums ts)) := fun W hW => by
            obtain ⟨A', c', e, _, _, hc⟩ := (HO3.out.rd.below hW).cells
            simp only [Value.slice.injEq] at e
            rw [e.1]; exact hc
          have HS2 : Hid (∀ W, Below wc.heap.size wc W → W.cell? ⟨X, 0, none⟩ = some (.int .i64 (n : Int)) ∧ W.cell? ⟨X, 1, none⟩ = some (.slice Ax dsI.length cx) ∧ Below wc.heap.size wc W) := fun W hW =>
            ⟨(hW.cell (p := ⟨X, 0, none⟩) HS3.out.two.lt).trans HS3.out.two.c0, (hW.cell (p := ⟨X, 1, none⟩) HS3.out.two.lt).trans HS3.out.two.c1, hW⟩
          have hb0 := Lib.hid ((Below.refl wc.heap.size wc).drew)
          have hb1 := Lib.hid (((Below.refl wc.heap.size wc).alloc (Nat.le_refl _) EmptyO).drew)
          have hcall : Hid (∀ W p, Below wc.heap.size wc W → Own W wc.heap.size 2 p (nums (usI ++ ts)) →
              Calls Tryz.prog 6 #[.agg #[.int .i64 (n : Int), .slice Ax dsI.length cx], .slice Au usI.length cu, p] W fun e w' => e = .returned (.tuple #[.int .i64 (if ts.length = 0 then 0 else -1), .int .i64 0]) ∧ Below wc.heap.size wc w') := fun W p hW hp => by
            have h := CompareTraces_c n _ _ _ dsI usI (usI ++ ts) W (HT.out.below (HS3.out.bel.trans (hW.mono HS3.out.bel.size))) ((HS3.out.rx.below hW).mono hW.size) ((HS3.out.ru.below hW).mono hW.size) hp.rd
            rw [HAPP.out.2.1, HAPP.out.2.2.2] at h
            exact h.mono fun _ _ ⟨he, hb⟩ => ⟨he, hW.trans (hb.mono hW.size)⟩
          obtain ⟨fi, hfi⟩ : ∃ fi : Int, fi = if ts.length = 0 then 0 else -1 := ⟨_, rfl⟩
          rw [← hfi] at hcall
          have HFI := Lib.hid hfi
          clear hfi
          go_wp2_with fail
          go_region_held3 (fun W => W.cell? ⟨X, 0, none⟩ = some (.int .i64 (n : Int)) ∧ W.cell? ⟨X, 1, none⟩ = some (.slice Ax dsI.length cx) ∧ Below wc.heap.size wc W)
            (first | exact HS2.out _ hbf | exact HS2.out _ hb0.out | exact HS2.out _ hb1.out | exact HS2.out _ hbp2 | exact HS2.out _ hbp1)
            (first
              | (refine step_app_all (w0 := wc) (ys := usI) (own_empty (b := wc.heap.size) (heap_alloc_new _ _) (Nat.le_refl _)) hb1.out (Nat.le_refl _) hb1.out.size (HCu.out _ hb1.out) HAu.out rm1 24 Tryz.underlying24 (by rfl) _ _ (by rfl) (by rfl) (by rfl) ?_; intro p1 wp1 hop1 hbp1 hgp1 hat1)
              | (refine step_app_all (w0 := wc) (ys := ts) hop1 hbp1 (Nat.le_refl _) hbp1.size (HCt.out _ hbp1) HAt.out rm2 24 Tryz.underlying24 (by rfl) _ _ (by rfl) (by rfl) (by rfl) ?_; intro p2 wp2 hop2 hbp2 hgp2 hat2)
              | (go_simp; go_at_call 6; refine (hcall.out _ _ hbp2 (by rw [nums_append]; simpa [Own] using hop2)).mono ?_; rintro e wf ⟨rfl, hbf⟩))
          have HF := Lib.hid (HS3.out.bel.trans (hbf.mono HS3.out.bel.size))
          clear hbf hbp1 hbp2 hop1 hop2 hgp1 hgp2 hat1 hat2
          have ho2 : ((o : Int) == o) = true := by simp
          by_cases ht0 : ts.length = 0
          · have e1 : fi = 0 := by have := HFI.out; rw [if_pos ht0] at this; exact this
            have e2 : ((ts.length : Int) == 0) = true := by simp only [beq_iff_eq]; omega
            have HE := Lib.hid ht0
            clear ht0
            subst e1
            go_wp2
            go_ret
            exact ⟨ret_b (by simp), HF.out⟩
          · have e1 : fi = -1 := by have := HFI.out; rw [if_neg ht0] at this; exact this
            have e2 : ((ts.length : Int) == 0) = false := by simp only [beq_eq_false_iff_ne]; omega
            clear ht0
            subst e1
            go_wp2
            go_ret
            exact ⟨ret_b (by simp), HF.out⟩
  · have E := cmpRes_bad hz
    rw [E]
    have hne : ((checkB n dsI [usI, vs] : Int) != checkB n dsI [usI, vs]) = false := by simp
    have hnz : ((checkB n dsI [usI, vs] : Int) != 0) = true := by simp [hz]
    generalize checkB n dsI [usI, vs] = code at hne hnz ⊢
    clear hz E
    go_wp2
    go_ret
    exact ⟨rfl, HS.out.bel⟩
end Go.Proofs.YtopfcpnilblieaaGreatDoor
