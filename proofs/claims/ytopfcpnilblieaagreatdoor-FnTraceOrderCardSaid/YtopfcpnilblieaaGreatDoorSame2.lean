/- impl.ties.normal, same; impl.AreSameTrace -/
import Derived.Test.YtopfcpnilblieaaGreatDoorSame
import Derived.Test.YtopfcpnilblieaaGreatDoorLaw4
namespace Go.Proofs.YtopfcpnilblieaaGreatDoor
open Go.RowKit

def sliceLn : Value → Nat
  | .slice _ n _ => n
  | _ => 0
theorem make_cap (n : Nat) (hn : n ≤ 1000000) : ∀ W : World, (Instr.makeSlice 24 (.int .i64 0) (.int .i64 (n : Int))).run Tryz.prog W = .ok (.slice (some ⟨W.heap.size, 0, none⟩) 0 n) (W.alloc (.cells (madeCells #[.int .i64 0] n) 2)) := fun W => by
  obtain ⟨i0, hi, hz0, hz1, hz2⟩ := info_parts infoInt
  have h := run_make (P := Tryz.prog) (w := W) 24 2 i0 (.int .i64 0) Tryz.underlying24 hi hz0 .i64 .i64 0 n (by omega) (by omega) (by rw [hz2]; omega) (by omega)
  rw [hz1] at h
  simpa [Value.cells] using h
theorem own_cap (W : World) (n : Nat) (hn : n ≤ 1000000) : Own (W.alloc (.cells (madeCells #[.int .i64 0] n) 2)) W.heap.size 2 (.slice (some ⟨W.heap.size, 0, none⟩) 0 n) [] :=
  ⟨by simp, .inr ⟨W.heap.size, n, _, rfl, Nat.le_refl _, heap_alloc_new W _, Nat.zero_le _, by simp only [maxLen]; omega, by rw [size_madeCells]; simp, by simp⟩⟩

/-- What is needed of an alphabet's masks to read normal forms. -/
abbrev NF (ds ws : List Nat) : List Nat := Tr.normal (DD ds) ds.length ws.length ws
theorem NF_step {ds ws : List Nat} {a : Nat} (h : Tr.next (DD ds) ds.length ws = some a) (ha : a ∈ ws) : NF ds ws = a :: NF ds (ws.erase a) := by
  have hl : (ws.erase a).length = ws.length - 1 := List.length_erase_of_mem ha
  have hp := List.length_pos_of_mem ha
  obtain ⟨n, hn⟩ : ∃ n, ws.length = n + 1 := ⟨ws.length - 1, by omega⟩
  unfold NF
  rw [hl, hn]
  show (match Tr.next (DD ds) ds.length ws with | none => [] | some a => a :: Tr.normal (DD ds) ds.length n (ws.erase a)) = _
  rw [h]
  rfl

set_option maxHeartbeats 1000000 in
theorem normal_c (vt v : Value) (ds ws : List Nat) (w : World) (hT : Tab w) (hd : ∀ m ∈ ds, m < 2 ^ 63) (h63 : ds.length ≤ 63) (hw : ∀ a ∈ ws, a < ds.length) (hl : ws.length ≤ 1000)
    (ht : Rd w w.heap.size vt (nats ds)) (hv : Rd w w.heap.size v (nats ws)) :
    Calls Tryz.prog 54 #[vt, v] w (OutRow 2 (nats (NF ds ws)) w) := by
  have hmk := make_cap ws.length (by omega)
  have HO0 := Lib.hid (own_cap w ws.length (by omega))
  have hal := (Below.refl w.heap.size w).alloc (Nat.le_refl _) (.cells (madeCells #[.int .i64 0] ws.length) 2)
  have hav := Lib.hid ((hv.avoid (some w.heap.size) (fun b e => by injection e; omega)).step hal)
  obtain ⟨A, c, rfl, _, _, _⟩ := hv.cells
  rw [nats_length] at hav ⊢
  have HT := Lib.hid hT
  have HD := Lib.hid hd
  have HR := Lib.hid ht
  have HW0 := Lib.hid hw
  have HAL := Lib.hid hal
  clear hv hT ht hd hal hw
  go_enter Tryz.func54, Tryz.ntmps54
  go_wp2
  go_loopw [5, 6] (fun s5 s6 wr => ∃ out rest : List Nat, out.length + rest.length ≤ ws.length ∧ sliceLn s6 = rest.length ∧ Hid (∀ a ∈ rest, a < ds.length) ∧ Hid (NF ds ws = out ++ NF ds rest) ∧ Own wr w.heap.size 2 s5 (nats out) ∧ Hid (Avoid wr s5.ownBlock s6 (nats rest)) ∧ Below w.heap.size w wr) (fun _ s6 _ => sliceLn s6)
  case atStart => exact ⟨[], ws, by simp, rfl, HW0, by simp [Hid], HO0.out, by rw [nats_length] at *; exact hav, HAL.out⟩
  case round =>
    obtain ⟨out, rest, hsum, hsl, HW, HN, hown, HA, hbel⟩ := hrel
    obtain ⟨Ar, cr, rfl, _, _, _⟩ := id HA.out
    have HOr := Lib.hid hown
    have HBr := Lib.hid hbel
    rw [nats_length] at *
    clear hown hsl
    by_cases hr0 : rest = []
    · subst hr0
      clear hbel
      go_wp2
      go_ret
      refine ⟨_, rfl, ?_, HBr.out⟩
      have h := HOr.out
      rw [HN.out]
      simpa [NF, Tr.normal] using h
    · obtain ⟨hnx, hpos, hlt, hmem⟩ := firsts_low HD.out h63 HW.out hr0
      have hrl : 0 < rest.length := List.length_pos_iff.2 hr0
      have hd1 : (0 : Int) < (rest.length : Int) := by omega
      have hlt63 := (firstsP_lt HD.out (p := (0, 0)) (ws := rest) (fun a ha => by have := HW.out a ha; omega) (by decide) (by decide)).1
      have cf := firsts_c vt (.slice Ar rest.length cr) ds rest wr.heap.size wr HD.out h63 HW.out ((HR.out.below hbel).mono hbel.size) HA.out.rd
      have cl := least_c (firstsP ds rest).1 hlt63 hpos wr (HT.out.below hbel)
      have hN1 : Hid (NF ds ws = (out ++ [low (firstsP ds rest).1]) ++ NF ds (rest.erase (low (firstsP ds rest).1))) := by
        rw [Hid, HN.out, NF_step hnx hmem]; simp
      have hle : Hid ((rest.erase (low (firstsP ds rest).1)).length = rest.length - 1) := List.length_erase_of_mem hmem
      have cw := fun W (hW : Rd W W.heap.size (.slice Ar rest.length cr) (nats rest)) => withoutFirst_c (.slice Ar rest.length cr) rest (low (firstsP ds rest).1) W hmem (by omega) hW
      generalize (firstsP ds rest).1 = m at cf cl hN1 hle cw hpos hlt63
      generalize low m = a at cl hN1 hle cw
      have hroom : Room (nats out).length := by rw [nats_length]; exact room (by omega)
      have hbs := hbel.size
      clear hnx hmem hr0 hlt hpos hlt63 hbel
      go_wp2_with (first
        | (go_at_call 75; refine cf.mono ?_; rintro e w' ⟨rfl, rfl⟩)
        | (go_at_call 71; refine cl.mono ?_; rintro e w' ⟨rfl, rfl⟩)
        | (at_builtin; refine app_int HOr.out HBr.out hbs hroom 24 Tryz.underlying24 rfl _ _ rfl _ rfl rfl ?_; intro v1 w1 HO1 HB1 hg1 hat1))
      have hA1 := HA.out.grown hg1 (row' := v1.ownBlock) hat1
      have cw1 := cw w1 hA1.rd
      have HQ : Hid (Own w1 w.heap.size 2 v1 (nats (out ++ [a])) ∧ Below w.heap.size w w1) := ⟨by rw [nats_append]; exact HO1, HB1⟩
      clear hA1 hg1 hat1 HO1 HB1 cf cl cw
      refine cw1.mono ?_
      rintro e w2 ⟨v2, rfl, HO2, HB2⟩
      have hsl2 : Hid (sliceLn v2 = (rest.erase a).length) := by
        obtain ⟨A2, c2, e2, _, _, _⟩ := HO2.cells
        rw [Hid, e2, nats_length]; rfl
      have HA2 : Hid (Avoid w2 v1.ownBlock v2 (nats (rest.erase a))) := HO2.avoid _ (fun b hb => (World.ownsRow.lt HQ.out.1 b hb).2)
      have HQ2 : Hid (Own w2 w.heap.size 2 v1 (nats (out ++ [a])) ∧ Below w.heap.size w w2) := ⟨HQ.out.1.below HB2 (Nat.le_refl _), HQ.out.2.trans (HB2.mono HQ.out.2.size)⟩
      have HW2 : Hid (∀ b ∈ rest.erase a, b < ds.length) := fun b hb => HW.out b (List.mem_of_mem_erase hb)
      clear HO2 HB2 cw1
      go_wp2
      go_roundw
      case rel => exact ⟨out ++ [a], rest.erase a, by rw [hle.out]; simp; omega, hsl2.out, HW2, hN1, HQ2.out.1, HA2, HQ2.out.2⟩
      case measure => rw [hsl2.out, hle.out]; simp only [sliceLn]; omega
theorem same_c (vt v1 v2 : Value) (ds us vs : List Nat) (w : World) (hT : Tab w) (hd : ∀ m ∈ ds, m < 2 ^ 63) (h63 : ds.length ≤ 63) (hu : ∀ a ∈ us, a < ds.length) (hv : ∀ a ∈ vs, a < ds.length) (hlu : us.length ≤ 1000) (hlv : vs.length ≤ 1000)
    (ht : Rd w w.heap.size vt (nats ds)) (h1 : Rd w w.heap.size v1 (nats us)) (h2 : Rd w w.heap.size v2 (nats vs)) :
    Calls Tryz.prog 23 #[vt, v1, v2] w fun e w' => e = .returned (.bool (decide (NF ds us = NF ds vs))) ∧ Below w.heap.size w w' := by
  have c1 := normal_c vt v1 ds us w hT hd h63 hu hlu ht h1
  have C2 : Hid (∀ W, Below w.heap.size w W → Calls Tryz.prog 54 #[vt, v2] W (OutRow 2 (nats (NF ds vs)) W)) := fun W hW => normal_c vt v2 ds vs W (hT.below hW) hd h63 hv hlv (ht.step hW) (h2.step hW)
  clear ht h1 h2 hT hd hu hv
  go_enter Tryz.func23, Tryz.ntmps23
  go_wp2_with fail
  refine c1.mono ?_
  rintro e w1 ⟨r1, rfl, HO1, HB1⟩
  have c2 := C2.out w1 HB1
  have HB := Lib.hid HB1
  clear c1
  go_wp2_with fail
  refine c2.mono ?_
  rintro e w2 ⟨r2, rfl, HO2, HB2⟩
  have R1 := (HO1.below HB2 (Nat.le_refl _)).rd
  have R2 := HO2.rd
  rw [nats_nums] at R1 R2
  have ce := Equal_c r1 r2 _ _ w2 _ R1 R2
  have HB3 := Lib.hid (HB.out.trans (HB2.mono HB.out.size))
  have HE : Hid (decide (((NF ds us).map fun (n : Nat) => (n : Int)) = (NF ds vs).map fun (n : Nat) => (n : Int)) = decide (NF ds us = NF ds vs)) := by
    have : ((NF ds us).map fun (n : Nat) => (n : Int)) = ((NF ds vs).map fun (n : Nat) => (n : Int)) ↔ NF ds us = NF ds vs := ⟨fun h => ints_inj h, fun h => by rw [h]⟩
    rw [Hid]; simp only [this]
  clear HO1 HO2 HB1 HB2 c2 R1 R2
  go_wp2_with fail
  refine ce.mono ?_
  rintro e w3 ⟨rfl, q, rfl⟩
  go_wp2
  go_ret
  exact ⟨ret_b HE.out, below_drewN HB3.out _⟩
end Go.Proofs.YtopfcpnilblieaaGreatDoor
