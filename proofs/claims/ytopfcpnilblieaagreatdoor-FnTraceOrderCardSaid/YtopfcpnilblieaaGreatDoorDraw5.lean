/- spec.l03Shuffle: a word of the same trace is drawn -/
import Derived.Test.YtopfcpnilblieaaGreatDoorDraw4
namespace Go.Proofs.YtopfcpnilblieaaGreatDoor
open Go.RowKit

/-- A slice that is read, in blocks above g. -/
def RdG (w : World) (g : Nat) (v : Value) (xs : List Value) : Prop := ∃ A c, v = .slice A xs.length c ∧ xs.length ≤ c ∧ xs.length ≤ 9223372036854775807 ∧ Cells w (g + 1) w.heap.size A xs
theorem RdG.rd {w : World} {g : Nat} {v : Value} {xs : List Value} (h : RdG w g v xs) : Rd w w.heap.size v xs := by
  obtain ⟨A, c, rfl, h1, h2, hc⟩ := h
  exact hc.rd h1 h2
theorem RdG.only {w w' : World} {g : Nat} {v : Value} {xs : List Value} (h : RdG w g v xs) (ho : Only w w' g) : RdG w' g v xs := by
  obtain ⟨A, c, e, h1, h2, hc⟩ := h
  exact ⟨A, c, e, h1, h2, (hc.grown ho (by omega)).mono (Nat.le_refl _) ho.size⟩
theorem RdG.step {w w' : World} {g : Nat} {v : Value} {xs : List Value} (h : RdG w g v xs) (hb : Below w.heap.size w w') : RdG w' g v xs := h.only (only_below hb)
theorem Own.rdg {w : World} {base T g : Nat} {v : Value} {xs : List Value} (h : Own w base T v xs) (hg : g < base) : RdG w g v xs := by
  obtain ⟨A, c, e, h1, h2, hc⟩ := h.cells
  exact ⟨A, c, e, h1, h2, hc.mono (by omega) (Nat.le_refl _)⟩
def sliceLen : Value → Nat
  | .slice _ n _ => n
  | _ => 0

theorem sWithoutN_c (v : Value) (ws : List Nat) (i : Nat) (w : World) (hi : i < ws.length) (hl : ws.length ≤ 1000000) (hv : Rd w w.heap.size v (nats ws)) :
    Calls Tryz.prog 28 #[v, .int .i64 (i : Int)] w (OutRow 2 (nats (ws.eraseIdx i)) w) := by
  have h := sWithout_c v (ws.map fun (n : Nat) => (n : Int)) i w (by simpa using hi) (by simpa using hl) (by rw [← nats_nums]; exact hv)
  rw [show nums ((ws.map fun (n : Nat) => (n : Int)).eraseIdx i) = nats (ws.eraseIdx i) by simp [nats, nums, List.eraseIdx_eq_take_drop_succ, List.map_take, List.map_drop, Function.comp_def]] at h
  exact h
theorem turn_hit {n f b : Nat} (hf : f < n) (hb : b < n) : ∃ j, j < n ∧ (f + j) % n = b := by
  by_cases h : f ≤ b
  · exact ⟨b - f, by omega, by rw [show f + (b - f) = b by omega]; exact Nat.mod_eq_of_lt hb⟩
  · exact ⟨b + n - f, by omega, by rw [show f + (b + n - f) = b + n by omega, Nat.add_mod_right]; exact Nat.mod_eq_of_lt hb⟩
structure Sh (w wr : World) (g n : Nat) (vx vo vr : Value) (out rest : List Nat) : Prop where
  oo : Own wr (w.heap.size + 1) 2 vo (nats out)
  orr : Own wr (w.heap.size + 1) 2 vr (nats rest)
  ne : vr.ownBlock = none ∨ vr.ownBlock ≠ vo.ownBlock
  src : Src wr g
  only : Only w wr g
  two : Two wr w.heap.size (.int .i64 (n : Int)) vx
theorem Own.step {w w' : World} {base T : Nat} {v : Value} {xs : List Value} (h : Own w base T v xs) (hb : Below w.heap.size w w') : Own w' base T v xs := h.below hb (Nat.le_refl _)
theorem Sh.step {w wr wr' : World} {g n : Nat} {vx vo vr : Value} {out rest : List Nat} (h : Sh w wr g n vx vo vr out rest) (hb : Below wr.heap.size wr wr') : Sh w wr' g n vx vo vr out rest :=
  ⟨h.oo.step hb, h.orr.step hb, h.ne, h.src.step hb, h.only.add hb, h.two.step hb⟩
theorem Sh.next {w wr wr' : World} {g n : Nat} {vx vo vr : Value} {out rest : List Nat} (h : Sh w wr g n vx vo vr out rest) (hg : g < w.heap.size) (hs : Src wr' g) (ho : Only wr wr' g) : Sh w wr' g n vx vo vr out rest :=
  ⟨h.oo.only ho (by omega), h.orr.only ho (by omega), h.ne, hs, h.only.trans ho, h.two.grown ho (fun e => by injection e; omega)⟩

set_option maxRecDepth 100000 in
set_option maxHeartbeats 1000000 in
theorem sShuffle_c (g n : Nat) (vx vw : Value) (ds ws : List Nat) (hn : n ≤ 24) (hdr : IsDrawn n ds) (hws : ∀ a ∈ ws, a < n) (hwl : ws.length ≤ 1000) (w : World) (hs : Src w g) (hx : RdG w g vx (nats ds)) (hw : RdG w g vw (nats ws)) :
    Calls Tryz.prog 14 #[.pointer (some ⟨g, 0, none⟩), .agg #[.int .i64 (n : Int), vx], vw] w (OutWord n ws.length g w) := by
  have hg := hs.lt
  have hal := (Below.refl w.heap.size w).alloc (Nat.le_refl _) (.cells #[.int .i64 (n : Int), vx] 26)
  have hal2 := (Below.refl _ (w.alloc (.cells #[.int .i64 (n : Int), vx] 26))).alloc (Nat.le_refl _) (.cells #[] 2)
  have ht := (Two.new w (.int .i64 (n : Int)) vx 26).step hal2
  have ho := World.ownsRow_lit (base := (w.alloc (.cells #[.int .i64 (n : Int), vx] 26)).heap.size) (e := 2) (size := 1) (w.alloc (.cells #[.int .i64 (n : Int), vx] 26)) #[] 0 (Nat.le_refl _) (by decide) rfl
  have hs1 := (hs.step hal).step hal2
  have O1 : Only w _ g := (only_below hal).add hal2
  have co := own_c vw (ws.map fun (n : Nat) => (n : Int)) _ (by simp; omega) (by rw [← nats_nums]; exact ((hw.step hal).step hal2).rd)
  rw [← nats_nums] at co
  have HO := Lib.hid (show Own ((w.alloc (.cells #[.int .i64 (n : Int), vx] 26)).alloc (.cells #[] 2)) (w.heap.size + 1) 2 (.slice (some ⟨w.heap.size + 1, 0, none⟩) 0 0) (nats []) by simpa [Own, nats] using ho)
  have HX : Hid (Src _ g ∧ Only w _ g ∧ Two _ w.heap.size (.int .i64 (n : Int)) vx) := ⟨hs1, O1, ht⟩
  have hz : ((w.alloc (.cells #[.int .i64 (n : Int), vx] 26)).alloc (.cells #[] 2)).heap.size = w.heap.size + 2 := by simp
  have HZ := Lib.hid hz
  have HRX := Lib.hid hx
  have HD := Lib.hid hdr
  clear ho hs O1 hw hal hal2 ht hs1 hz hx hdr
  go_enter Tryz.func14, Tryz.ntmps14
  go_wp2_with fail
  refine co.mono ?_
  rintro e w1 ⟨vr, rfl, HOr, B1⟩
  have HSh : Hid (Sh w w1 g n vx (.slice (some ⟨w.heap.size + 1, 0, none⟩) 0 0) vr [] ws) := by
    refine ⟨HO.out.step B1, Own.base HOr (by rw [HZ.out]; omega), ?_, HX.out.1.step B1, HX.out.2.1.add B1, HX.out.2.2.step B1⟩
    by_cases e : vr.ownBlock = none
    · exact .inl e
    · refine .inr (fun e2 => ?_)
      have := (World.ownsRow.lt HOr (w.heap.size + 1) (by rw [e2]; rfl)).1
      rw [HZ.out] at this; omega
  clear HO HX HOr B1 co HZ
  go_wp2
  go_loopw [7, 8] (fun s7 s8 wr => ∃ out rest : List Nat, out.length + rest.length ≤ ws.length ∧ sliceLen s8 = rest.length ∧ Hid (∀ a ∈ out, a < n) ∧ Hid (∀ a ∈ rest, a < n) ∧ Hid (Sh w wr g n vx s7 s8 out rest)) (fun _ s8 _ => sliceLen s8)
  case atStart =>
    obtain ⟨A, c, e, _, _, _⟩ := HSh.out.orr.cells
    exact ⟨[], ws, by simp, by rw [e, nats_length]; rfl, by simp [Hid], hws, HSh⟩
  case round =>
    obtain ⟨out, rest, hsum, hsl, HWo, HWr, HS⟩ := hrel
    obtain ⟨Ao, co', rfl, _, _, _⟩ := HS.out.oo.cells
    obtain ⟨Ar, cr', rfl, _, _, _⟩ := HS.out.orr.cells
    rw [nats_length, nats_length] at *
    clear hsl
    by_cases hr0 : rest.length = 0
    · have hd : ¬ (0 : Int) < (rest.length : Int) := by omega
      have hol : out.length ≤ ws.length := by omega
      clear hr0
      go_wp2
      go_ret
      exact ⟨_, out, rfl, hol, HWo.out, Own.base HS.out.oo (by omega), HS.out.src, HS.out.only⟩
    · have hd : (0 : Int) < (rest.length : Int) := by omega
      have hb0 : rest.getD 0 0 < n := by
        have := HWr.out rest[0] (List.getElem_mem (by omega))
        simpa [List.getD_eq_getElem?_getD, show 0 < rest.length by omega] using this
      have hf0 : Hid (firstS ds (rest.getD 0 0) rest = ((0 : Nat) : Int)) := firstS_hit (by omega) (fun j hj => absurd hj (Nat.not_lt_zero _)) rfl
      generalize rest.getD 0 0 = b0 at hb0 hf0
      have cn := next_c g n wr HS.out.src (by omega)
      have q0 := HS.out.two.c0
      go_wp2_with fail
      refine cn.mono ?_
      rintro e w2 ⟨f, rfl, hf, hs2, o2⟩
      have hfn : f < n := by omega
      have HS2 := Lib.hid (HS.out.next hg hs2 o2)
      clear cn hf hs2 o2 HS q0
      obtain ⟨wo, rfl⟩ : ∃ wo : World, wo = wr := ⟨_, rfl⟩
      go_wp2
      go_loopw [7, 8, 10] (fun s7 s8 s10 wr => ∃ k : Nat, k ≤ n ∧ s7 = .slice Ao out.length co' ∧ s8 = .slice Ar rest.length cr' ∧ s10 = .int .i64 (k : Int) ∧ Hid (∀ j, j < k → firstS ds ((f + j) % n) rest < 0) ∧ Hid (Sh w wr g n vx (.slice Ao out.length co') (.slice Ar rest.length cr') out rest)) (fun _ _ s10 _ => n - (intOf s10).toNat)
      case atStart => exact ⟨0, Nat.zero_le _, rfl, rfl, rfl, fun j hj => absurd hj (Nat.not_lt_zero _), HS2⟩
      case round =>
        obtain ⟨k, hk, rfl, rfl, rfl, HN, HS⟩ := hrel
        by_cases hkn : k < n
        · have hkn' : (k : Int) < n := by omega
          have q0 := HS.out.two.c0
          have q1 := HS.out.two.c1
          have hmod : ((f : Int) + (k : Int)) % (n : Int) = (((f + k) % n : Nat) : Int) := by simp
          have HNk : Hid (firstS ds ((f + k) % n) rest < 0 → ∀ j, j < k + 1 → firstS ds ((f + j) % n) rest < 0) := fun h j hj => by
            by_cases e : j = k
            · subst e; exact h
            · exact HN.out j (by omega)
          have han : (f + k) % n < n := Nat.mod_lt _ (by omega)
          generalize (f + k) % n = a at hmod HNk han
          have cf := sFirst_c n vx _ ds rest a wr (HD.out.lt63 hn) (by omega) (fun b hb => by rw [HD.out.len]; exact HWr.out b hb) (HRX.out.only HS.out.only).rd HS.out.orr.rd
          have hge := firstS_ge ds a rest
          have hlt := firstS_lt ds a rest
          generalize hfs : firstS ds a rest = r at cf hge hlt HNk
          have HFS := Lib.hid hfs
          clear hfs
          by_cases hr : r < 0
          · have hr' : ¬ (0 : Int) ≤ r := by omega
            go_wp2_with fail
            refine cf.mono ?_
            rintro e w3 ⟨rfl, b3⟩
            have HS3 := Lib.hid (HS.out.step b3)
            have HNN := Lib.hid (HNk.out hr)
            clear cf b3 q0 q1
            go_wp2
            go_roundw
            case rel => exact ⟨k + 1, by omega, rfl, rfl, by go_num, HNN, HS3⟩
            case measure => simp [intOf]; omega
          · obtain ⟨i, rfl⟩ : ∃ i : Nat, r = (i : Int) := ⟨r.toNat, by omega⟩
            have hil : i < rest.length := by
              rcases hlt with h | h
              · omega
              · subst h; simp at hr0
            have hr' : (0 : Int) ≤ (i : Int) := by omega
            go_wp2_with fail
            refine cf.mono ?_
            rintro e w3 ⟨rfl, b3⟩
            have HS3 := Lib.hid (HS.out.step b3)
            have hroom : Room (nats out).length := by rw [nats_length]; exact room (by omega)
            have hbase : w.heap.size + 1 ≤ w3.heap.size := by have := HS3.out.two.lt; omega
            have HOO : Hid (Own w3 (w.heap.size + 1) 2 (.slice Ao out.length co') (nats out)) := HS3.out.oo
            clear cf b3 q0 q1 HS HNk hlt hge hr
            go_wp2_with (at_builtin; refine app_int HOO.out (Below.refl _ w3) hbase hroom 24 Tryz.underlying24 rfl _ _ rfl _ rfl rfl ?_; intro v1 w4 HO4 HB4 hg4 hat4)
            have HR4 : Own w4 (w.heap.size + 1) 2 (.slice Ar rest.length cr') (nats rest) := HS3.out.orr.kept hg4 HS3.out.ne
            have cw := sWithoutN_c _ rest i w4 hil (by omega) HR4.rd
            have HY : Hid (Src w4 g ∧ Only w w4 g ∧ Two w4 w.heap.size (.int .i64 (n : Int)) vx) := ⟨HS3.out.src.below HB4 (by omega), HS3.out.only.belowB HB4 (by omega), HS3.out.two.below HB4 (by omega)⟩
            have HOO4 : Hid (Own w4 (w.heap.size + 1) 2 v1 (nats (out ++ [a]))) := by rw [Hid, nats_append]; exact HO4
            clear HO4 HB4 hg4 hat4 HR4
            go_wp2_with fail
            refine cw.mono ?_
            rintro e w5 ⟨vr', rfl, HO5, B5⟩
            have hsz5 : w.heap.size + 1 ≤ w4.heap.size := by have := HY.out.2.2.lt; omega
            have HSN : Hid (Sh w w5 g n vx v1 vr' (out ++ [a]) (rest.eraseIdx i)) := by
              refine ⟨HOO4.out.step B5, Own.base HO5 hsz5, ?_, HY.out.1.step B5, HY.out.2.1.add B5, HY.out.2.2.step B5⟩
              by_cases e : vr'.ownBlock = none
              · exact .inl e
              · refine .inr (fun e2 => ?_)
                obtain ⟨q, hq⟩ := Option.ne_none_iff_exists'.1 e
                have l1 := (World.ownsRow.lt HO5 q hq).1
                have l2 := (World.ownsRow.lt HOO4.out q (by rw [← e2]; exact hq)).2
                omega
            have hsl5 : Hid (sliceLen vr' = (rest.eraseIdx i).length) := by
              obtain ⟨A5, c5, e5, _, _, _⟩ := HO5.cells
              rw [Hid, e5, nats_length]; rfl
            have hle : (rest.eraseIdx i).length = rest.length - 1 := by rw [List.length_eraseIdx]; simp [hil]
            have HLE := Lib.hid hle
            have HWn : Hid (∀ b ∈ out ++ [a], b < n) := fun b hb => by
              rcases List.mem_append.1 hb with h | h
              · exact HWo.out b h
              · simp at h; omega
            have HWm : Hid (∀ b ∈ rest.eraseIdx i, b < n) := fun b hb => HWr.out b (List.mem_of_mem_eraseIdx hb)
            clear HO5 B5 cw hle
            go_wp2
            go_roundw
            case rel => exact ⟨out ++ [a], rest.eraseIdx i, by rw [HLE.out]; simp; omega, hsl5.out, HWn, HWm, HSN⟩
            case measure => rw [hsl5.out, HLE.out]; simp only [sliceLen]; omega
        · exfalso
          obtain ⟨j, hj, he⟩ := turn_hit hfn hb0
          have := HN.out j (by omega)
          rw [he, hf0.out] at this
          omega
end Go.Proofs.YtopfcpnilblieaaGreatDoor
