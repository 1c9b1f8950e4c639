/- A name's word, or none: the program's and the document's. No statement is proved here. -/
import Derived.Test.YtlilhdkaaendlaaNameEq
import Derived.Test.YtlilhdkaaendlaaRtext
namespace Go.Proofs.Ytlilhdkaaendlaa
open Go.RowKit

def wordN (n : List UInt8) : List UInt8 := if n = zeroN then [45] else ntxt n
set_option maxRecDepth 100000 in
set_option maxHeartbeats 800000 in
theorem named_c (n : List UInt8) (hn : n.length = 8) (w : World) : Calls Try.prog 77 #[nmV n] w fun e w' => e = .returned (.string ⟨(wordN n).toArray⟩) ∧ Only No w w' := by
  have HS := fun W : World => Lib.hid (some_c n hn W)
  have HT := fun W : World => Lib.hid (text_c n hn W)
  unfold wordN
  obtain ⟨t, ht⟩ : ∃ t, t = ntxt n := ⟨_, rfl⟩
  rw [← ht] at HT ⊢
  clear ht
  obtain ⟨a, b, c, d, e, f, g, h, rfl⟩ := eight hn
  have hE : nmV [a, b, c, d, e, f, g, h] = .agg #[.int .u8 (a.toNat : Int), .int .u8 (b.toNat : Int), .int .u8 (c.toNat : Int), .int .u8 (d.toNat : Int), .int .u8 (e.toNat : Int), .int .u8 (f.toNat : Int), .int .u8 (g.toNat : Int), .int .u8 (h.toNat : Int)] := rfl
  rw [hE] at HS HT ⊢
  clear hE
  by_cases hz : [a, b, c, d, e, f, g, h] = zeroN
  · rw [if_pos hz]
    rw [decide_eq_true hz] at HS
    clear hz
    go_enter Try.func77, Try.ntmps77
    go_wp2_with fail
    refine (HS _).out.mono ?_
    rintro x w1 ⟨rfl, hO⟩
    go_wp2_with fail
    go_ret
    exact ⟨rfl, ((Only.refl _ _).alloc _).trans hO⟩
  · rw [if_neg hz]
    rw [decide_eq_false hz] at HS
    clear hz
    go_enter Try.func77, Try.ntmps77
    go_wp2_with fail
    refine (HS _).out.mono ?_
    rintro x w1 ⟨rfl, hO⟩
    have hb : Blk w1 w.heap.size _ 49 := hO.blk (Blk.new _ _ _) (fun h => h)
    have g0 := hb.cell 0 _ rfl; have g1 := hb.cell 1 _ rfl; have g2 := hb.cell 2 _ rfl; have g3 := hb.cell 3 _ rfl; have g4 := hb.cell 4 _ rfl; have g5 := hb.cell 5 _ rfl; have g6 := hb.cell 6 _ rfl; have g7 := hb.cell 7 _ rfl
    go_wp2_with fail
    refine (HT _).out.mono ?_
    rintro x w2 ⟨rfl, hO2⟩
    clear g0 g1 g2 g3 g4 g5 g6 g7
    go_wp2_with fail
    go_ret
    exact ⟨rfl, (((Only.refl _ _).alloc _).trans hO).trans hO2⟩
set_option maxRecDepth 100000 in
set_option maxHeartbeats 800000 in
theorem rWord_c (n : List UInt8) (hn : n.length = 8) (w : World) : Calls Try.prog 79 #[nmV n] w fun e w' => e = .returned (.string ⟨(wordN n).toArray⟩) ∧ Only No w w' := by
  have hq := fun W : World => nm_eq 9998 n zeroN hn rfl W
  have HT := fun W : World => Lib.hid (rText_c n hn W)
  unfold wordN
  obtain ⟨t, ht⟩ : ∃ t, t = ntxt n := ⟨_, rfl⟩
  rw [← ht] at HT ⊢
  clear ht
  obtain ⟨a, b, c, d, e, f, g, h, rfl⟩ := eight hn
  have hz8 : nmV zeroN = .agg zero8 := rfl
  have hE : nmV [a, b, c, d, e, f, g, h] = .agg #[.int .u8 (a.toNat : Int), .int .u8 (b.toNat : Int), .int .u8 (c.toNat : Int), .int .u8 (d.toNat : Int), .int .u8 (e.toNat : Int), .int .u8 (f.toNat : Int), .int .u8 (g.toNat : Int), .int .u8 (h.toNat : Int)] := rfl
  rw [hE] at hq HT ⊢
  rw [hz8] at hq
  clear hE hz8
  by_cases hz : [a, b, c, d, e, f, g, h] = zeroN
  · rw [if_pos hz]
    rw [decide_eq_true hz] at hq
    clear hz
    go_enter Try.func79, Try.ntmps79
    go_wp2_with fail
    go_ret
    exact ⟨rfl, (Only.refl _ _).alloc _⟩
  · rw [if_neg hz]
    rw [decide_eq_false hz] at hq
    clear hz
    go_enter Try.func79, Try.ntmps79
    go_wp2_with fail
    refine (HT _).out.mono ?_
    rintro x w2 ⟨rfl, hO2⟩
    go_wp2_with fail
    go_ret
    exact ⟨rfl, ((Only.refl _ _).alloc _).trans hO2⟩
end Go.Proofs.Ytlilhdkaaendlaa
