/- spec.l03Draw: a word is drawn -/
import Derived.Test.YtopfcpnilblieaaGreatDoorDraw3
import Derived.Test.YtopfcpnilblieaaGreatDoorDraw2
namespace Go.Proofs.YtopfcpnilblieaaGreatDoor
open Go.RowKit

theorem Only.belowB {a w w' : World} {g B : Nat} (h : Only a w g) (hb : Below B w w') (hB : a.heap.size ≤ B) : Only a w' g :=
  ⟨hb.os.trans h.os, hb.tape.trans h.tape, hb.output.trans h.output, Nat.le_trans h.size hb.size, fun i hi hne => (hb.block i (Nat.lt_of_lt_of_le hi hB)).trans (h.block i hi hne)⟩

/-- A word of n letters, in a row of its own. -/
def OutWord (n most g : Nat) (w : World) (e : Ending) (w' : World) : Prop :=
  ∃ (v : Value) (ws : List Nat), e = .returned v ∧ ws.length ≤ most ∧ (∀ a ∈ ws, a < n) ∧ Own w' w.heap.size 2 v (nats ws) ∧ Src w' g ∧ Only w w' g

set_option maxRecDepth 100000 in
set_option maxHeartbeats 1000000 in
theorem sRow_c (g n most : Nat) (vx : Value) (hn : n ≤ 24) (hm : most ≤ 1000) (w : World) (hs : Src w g) : Calls Tryz.prog 13 #[.pointer (some ⟨g, 0, none⟩), .agg #[.int .i64 (n : Int), vx], .int .i64 (most : Int)] w (OutWord n most g w) := by
  have hg := hs.lt
  have hal := (Below.refl w.heap.size w).alloc (Nat.le_refl _) (.cells #[.int .i64 (n : Int), vx] 26)
  have hal2 := (Below.refl _ (w.alloc (.cells #[.int .i64 (n : Int), vx] 26))).alloc (Nat.le_refl _) (.cells #[] 2)
  have ht := (Two.new w (.int .i64 (n : Int)) vx 26).step hal2
  have ho := World.ownsRow_lit (base := (w.alloc (.cells #[.int .i64 (n : Int), vx] 26)).heap.size) (e := 2) (size := 1) (w.alloc (.cells #[.int .i64 (n : Int), vx] 26)) #[] 0 (Nat.le_refl _) (by decide) rfl
  have hs1 := (hs.step hal).step hal2
  have O1 : Only w _ g := (only_below hal).add hal2
  have HO := Lib.hid (show Own ((w.alloc (.cells #[.int .i64 (n : Int), vx] 26)).alloc (.cells #[] 2)) (w.heap.size + 1) 2 (.slice (some ⟨w.heap.size + 1, 0, none⟩) 0 0) (nats []) by simpa [Own, nats] using ho)
  have HX : Hid (Src _ g ∧ Only w _ g ∧ Two _ w.heap.size (.int .i64 (n : Int)) vx) := ⟨hs1, O1, ht⟩
  clear ho hs O1
  by_cases h0 : n = 0
  · subst h0
    have hd : (((0 : Nat) : Int) == 0) = true := by simp
    clear ht
    go_enter Tryz.func13, Tryz.ntmps13
    go_wp2
    go_ret
    exact ⟨_, [], rfl, Nat.zero_le _, by simp, Own.base HO.out (by omega), HX.out.1, HX.out.2.1⟩
  · have hd : ((n : Int) == 0) = false := by simp; omega
    have cn := next_c g (most + 1) _ hs1 (by omega)
    have t0 := ht.c0
    clear ht hs1
    go_enter Tryz.func13, Tryz.ntmps13
    go_wp2_with fail
    refine cn.mono ?_
    rintro e w1 ⟨k, rfl, hk, hs2, o2⟩
    have HX2 : Hid (Src w1 g ∧ Only w w1 g ∧ Two w1 w.heap.size (.int .i64 (n : Int)) vx) := ⟨hs2, HX.out.2.1.trans o2, HX.out.2.2.grown o2 (fun e => by injection e; omega)⟩
    have HO2 := Lib.hid (Own.only HO.out o2 (by omega))
    have hkm : k ≤ most := by omega
    clear cn hs2 o2 hk HX HO hal hal2 t0
    go_wp2
    go_loopw [7, 8] (fun s7 s8 wr => ∃ (i : Nat) (ws : List Nat), i + ws.length ≤ most ∧ s8 = .int .i64 (i : Int) ∧ Own wr (w.heap.size + 1) 2 s7 (nats ws) ∧ Hid (∀ a ∈ ws, a < n) ∧ Hid (Src wr g ∧ Only w wr g ∧ Two wr w.heap.size (.int .i64 (n : Int)) vx)) (fun _ s8 _ => (intOf s8).toNat)
    case atStart => exact ⟨k, [], by simpa using hkm, rfl, HO2.out, by simp [Hid], HX2⟩
    case round =>
      obtain ⟨i, ws, hi, rfl, hown, HW, HXr⟩ := hrel
      by_cases hi0 : i = 0
      · subst hi0
        have hd2 : ¬ (0 : Int) < ((0 : Nat) : Int) := by omega
        have HOr := Lib.hid hown
        clear hown
        go_wp2
        go_ret
        exact ⟨_, ws, rfl, by omega, HW.out, Own.base HOr.out (by omega), HXr.out.1, HXr.out.2.1⟩
      · have hd2 : (0 : Int) < (i : Int) := by omega
        have hbase : w.heap.size + 1 ≤ wr.heap.size := by have := HXr.out.2.2.lt; omega
        have q0 := HXr.out.2.2.c0
        obtain ⟨A, cp, rfl, hcp, _, HC⟩ := hown.cells
        have HOr := Lib.hid hown
        clear hown
        rw [nats_length] at *
        have hroom : Room (nats ws).length := by rw [nats_length]; exact room (by omega)
        -- a new letter behind what is there
        have hnew : ∀ (w3 : World) (x : Nat), Own w3 (w.heap.size + 1) 2 (.slice A ws.length cp) (nats ws) → x < n → Src w3 g → Only w w3 g → Two w3 w.heap.size (.int .i64 (n : Int)) vx → ∀ v1 w4, Own w4 (w.heap.size + 1) 2 v1 (nats ws ++ [.int .i64 (x : Int)]) → Below (w.heap.size + 1) w3 w4 →
            Own w4 (w.heap.size + 1) 2 v1 (nats (ws ++ [x])) ∧ Hid (∀ a ∈ ws ++ [x], a < n) ∧ Hid (Src w4 g ∧ Only w w4 g ∧ Two w4 w.heap.size (.int .i64 (n : Int)) vx) := fun w3 x _ hx s3 o3 t3 v1 w4 o4 b4 =>
          ⟨by rw [nats_append]; exact o4, fun a ha => by
            rcases List.mem_append.1 ha with h | h
            · exact HW.out a h
            · simp at h; omega, s3.below b4 (by omega), o3.belowB b4 (by omega), t3.below b4 (by omega)⟩
        have HN := Lib.hid hnew
        clear hnew
        have cl := next_c g n wr HXr.out.1 (by omega)
        have c8 := next_c g 8 wr HXr.out.1 (by omega)
        by_cases hl0 : ws.length = 0
        · have hd3 : ¬ (0 : Int) < (ws.length : Int) := by omega
          clear c8 hl0
          go_wp2_with fail
          refine cl.mono ?_
          rintro e w3 ⟨x, rfl, hx, hs3, o3⟩
          have hxn : x < n := by omega
          have HO3 := Lib.hid (Own.only HOr.out o3 (by omega))
          have HY : Hid (Src w3 g ∧ Only w w3 g ∧ Two w3 w.heap.size (.int .i64 (n : Int)) vx) := ⟨hs3, HXr.out.2.1.trans o3, HXr.out.2.2.grown o3 (fun e => by injection e; omega)⟩
          have hb3 : w.heap.size + 1 ≤ w3.heap.size := Nat.le_trans hbase o3.size
          clear cl hs3 o3 hx
          go_wp2_with (at_builtin; refine app_int HO3.out (Below.refl _ w3) hb3 hroom 24 Tryz.underlying24 rfl _ _ rfl _ rfl rfl ?_; intro v1 w4 HO4 HB4 _ _)
          have HZ := Lib.hid (HN.out w3 x HO3.out hxn HY.out.1 HY.out.2.1 HY.out.2.2 v1 w4 HO4 HB4)
          clear HO4 HB4
          go_roundw
          case rel => exact ⟨i - 1, ws ++ [x], by simp; omega, by go_num, HZ.out.1, HZ.out.2.1, HZ.out.2.2⟩
          case measure => simp [intOf]; omega
        · have hd3 : (0 : Int) < (ws.length : Int) := by omega
          clear cl
          go_wp2_with fail
          refine c8.mono ?_
          rintro e w3 ⟨x, rfl, hx, hs3, o3⟩
          have HO3 := Lib.hid (Own.only HOr.out o3 (by omega))
          have HY : Hid (Src w3 g ∧ Only w w3 g ∧ Two w3 w.heap.size (.int .i64 (n : Int)) vx) := ⟨hs3, HXr.out.2.1.trans o3, HXr.out.2.2.grown o3 (fun e => by injection e; omega)⟩
          have hb3 : w.heap.size + 1 ≤ w3.heap.size := Nat.le_trans hbase o3.size
          have q3 := HY.out.2.2.c0
          have HC3 := HC.grown o3 (by omega)
          clear c8 o3 hx q0
          by_cases hx0 : x = 0
          · subst hx0
            have hd4 : (((0 : Nat) : Int) == 0) = true := by simp
            have hlw : ws.length - 1 < ws.length := by omega
            obtain ⟨b, o, rfl, _, _, hc⟩ := HC3.at_ (ws.length - 1) _ (nats_get hlw)
            have hin := HW.out _ (List.getElem_mem hlw)
            generalize ws[ws.length - 1] = y at hc hin
            have hidx : ((ws.length : Int) - 1).toNat = ws.length - 1 := by omega
            clear hs3
            go_wp2_with (at_builtin; refine app_int HO3.out (Below.refl _ w3) hb3 hroom 24 Tryz.underlying24 rfl _ _ rfl _ rfl rfl ?_; intro v1 w4 HO4 HB4 _ _)
            have HZ := Lib.hid (HN.out w3 y HO3.out hin HY.out.1 HY.out.2.1 HY.out.2.2 v1 w4 HO4 HB4)
            clear HO4 HB4
            go_roundw
            case rel => exact ⟨i - 1, ws ++ [y], by simp; omega, by go_num, HZ.out.1, HZ.out.2.1, HZ.out.2.2⟩
            case measure => simp [intOf]; omega
          · have hd4 : ((x : Int) == 0) = false := by simp; omega
            have cl := next_c g n w3 hs3 (by omega)
            clear hs3
            go_wp2_with fail
            refine cl.mono ?_
            rintro e w5 ⟨y, rfl, hy, hs5, o5⟩
            have hyn : y < n := by omega
            have HO5 := Lib.hid (Own.only HO3.out o5 (by omega))
            have HY5 : Hid (Src w5 g ∧ Only w w5 g ∧ Two w5 w.heap.size (.int .i64 (n : Int)) vx) := ⟨hs5, HY.out.2.1.trans o5, HY.out.2.2.grown o5 (fun e => by injection e; omega)⟩
            have hb5 : w.heap.size + 1 ≤ w5.heap.size := Nat.le_trans hb3 o5.size
            clear cl hs5 o5 hy
            go_wp2_with (at_builtin; refine app_int HO5.out (Below.refl _ w5) hb5 hroom 24 Tryz.underlying24 rfl _ _ rfl _ rfl rfl ?_; intro v1 w4 HO4 HB4 _ _)
            have HZ := Lib.hid (HN.out w5 y HO5.out hyn HY5.out.1 HY5.out.2.1 HY5.out.2.2 v1 w4 HO4 HB4)
            clear HO4 HB4
            go_roundw
            case rel => exact ⟨i - 1, ws ++ [y], by simp; omega, by go_num, HZ.out.1, HZ.out.2.1, HZ.out.2.2⟩
            case measure => simp [intOf]; omega
end Go.Proofs.YtopfcpnilblieaaGreatDoor
