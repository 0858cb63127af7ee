/-
  The reference's draw of two addresses. No condition.
-/
import Derived.Test.YtpehaoamfifgbaaFae
import Derived.Deep.CutRange
namespace Go.Proofs.Ytpehaoamfifgbaa
set_option linter.unusedVariables false
set_option linter.unusedSimpArgs false
set_option maxRecDepth 100000
open Go.ChangeShapes Go.WideShapes Go.ChangeAt Go.RowKit Go.Deep

def GotTwo (w : World) (e : Ending) (w' : World) : Prop := ∃ a b : S2, shortA a ∧ shortA b ∧ e = .returned (.tuple #[.agg #[.string a.1, .string a.2], .agg #[.string b.1, .string b.2]]) ∧ Below w.heap.size w w'
theorem BoxAt.two {w : World} {g : Nat} {a b : Value} {t : TypeId} (h : BoxAt w g [a, b] t) :
    (w.cell? ⟨g, 0, none⟩ = some a ∧ w.cell? ⟨g, 1, none⟩ = some b) ∧ w.frozen? ⟨g, 0, none⟩ = false ∧ w.frozen? ⟨g, 1, none⟩ = false :=
  ⟨⟨h.cell 0 _ rfl, h.cell 1 _ rfl⟩, h.open_ 0, h.open_ 1⟩
theorem BoxAt.two_put {w : World} {g : Nat} {a b : Value} {t : TypeId} (h : BoxAt w g [a, b] t) (a' b' : Value) : BoxAt ((w.setCell ⟨g, 0, none⟩ a').setCell ⟨g, 1, none⟩ b') g [a', b'] t := (h.put (j := 0) a').put (j := 1) b'
theorem BoxAt.two_off {w : World} {g k : Nat} {vs : List Value} {t : TypeId} (h : BoxAt w g vs t) (hk : g ≠ k) (a' b' : Value) : BoxAt ((w.setCell ⟨k, 0, none⟩ a').setCell ⟨k, 1, none⟩ b') g vs t :=
  (h.other (p := ⟨k, 0, none⟩) hk a').other (p := ⟨k, 1, none⟩) hk b'
theorem below_two {B g : Nat} {w w' : World} (h : Below B w w') (hg : B ≤ g) (a b : Value) : Below B w ((w'.setCell ⟨g, 0, none⟩ a).setCell ⟨g, 1, none⟩ b) :=
  (h.setCell (p := ⟨g, 0, none⟩) hg a).setCell (p := ⟨g, 1, none⟩) hg b
set_option maxHeartbeats 2000000 in
theorem drawCompareAddrs_any {A : Option Addr} {n c : Nat} {zs : List Int} (w : World) (hx : Reads w w.heap.size 1 A n (zs.map (Value.int .u8))) (hn : n ≤ 1048576) (hz : ∀ z ∈ zs, 0 ≤ z ∧ z ≤ 255) :
    Calls Try.prog 16 #[.slice A n c] w (GotTwo w) := by
  have hb0 := ((Below.refl w.heap.size w).alloc (Nat.le_refl _) (.cells #[.string ⟨#[]⟩, .string ⟨#[]⟩] 25)).alloc (by simp) (.cells #[.string ⟨#[]⟩, .string ⟨#[]⟩] 25)
  have bx2 := (BoxAt.new (w := w) rfl [.string ⟨#[]⟩, .string ⟨#[]⟩] 25).alloc (.cells #[.string ⟨#[]⟩, .string ⟨#[]⟩] 25)
  have bx3 : BoxAt ((w.alloc (.cells #[.string ⟨#[]⟩, .string ⟨#[]⟩] 25)).alloc (.cells #[.string ⟨#[]⟩, .string ⟨#[]⟩] 25)) (w.heap.size + 1) [.string ⟨#[]⟩, .string ⟨#[]⟩] 25 := BoxAt.new (by simp) _ _
  have hx1 := hx.next hb0
  go_enter Try.func16, Try.ntmps16
  go_wp2_with (fail)
  go_at_call 28
  refine (l1New_any _ hx1 hn hz).mono ?_
  rintro e w0 ⟨g, hg, rfl, hb, hc⟩
  simp only [World.size_alloc] at hg
  have bx2 := bx2.next hb
  have bx3 := bx3.next hb
  replace hb0 := hb0.trans (hb.mono hb0.size)
  clear hb hx hx1 hz
  have hd := Draws.refl hc
  go_wp2_with (fail)
  go_at_call 32
  refine (l4Any_any _ g hd.2).mono ?_
  rintro e w1 ⟨⟨s, p⟩, hs, rfl, d⟩
  have hz1 := d.size
  have hlt3 := bx3.lt
  have bx2 := (bx2.keeps d.1 (by omega)).alloc (.cells #[.string s, .string p] 25)
  have bx3 := (bx3.keeps d.1 (by omega)).alloc (.cells #[.string s, .string p] 25)
  have bx5 := BoxAt.new (w := w1) rfl [.string s, .string p] 25
  have hg1 := d.lt
  replace hd := (hd.trans d).alloc (.cells #[.string s, .string p] 25)
  clear d
  go_wp2_with (fail)
  go_at_call 30
  refine (l1Once_any _ g hd.2 4 (by omega) (by omega)).mono ?_
  rintro e w2 ⟨o, rfl, d⟩
  have bx2 := bx2.keeps d.1 (by omega)
  have bx3 := bx3.keeps d.1 (by omega)
  have bx5 := bx5.keeps d.1 (by omega)
  replace hd := hd.trans d
  have hz2 := d.size
  simp only [World.size_alloc] at hz2
  clear d
  have hg0 := hc.lt
  have hb2 : Below w.heap.size w w2 := hb0.trans (hd.below hb0.size (by omega))
  obtain ⟨⟨p0, p1⟩, q0, q1⟩ := bx2.two
  obtain ⟨⟨p2, p3⟩, q2, q3⟩ := bx3.two
  obtain ⟨⟨k0, k1⟩, -⟩ := bx5.two
  have hn0 : w.heap.size ≠ w.heap.size + 1 := by omega
  have hn1 : w.heap.size ≠ w1.heap.size := by omega
  have hn2 : w.heap.size + 1 ≠ w1.heap.size := by omega
  cases o
  · go_wp2_with (fail)
    go_cut [4] from 6 (fun s4 wx => s4 = .pointer (some ⟨g, 0, none⟩) ∧ BoxAt wx w.heap.size [.string s, .string p] 25 ∧ (∃ b : S2, shortA b ∧ BoxAt wx (w.heap.size + 1) [.string b.1, .string b.2] 25) ∧ Below w.heap.size w wx)
    case first =>
      go_region_held3 (fun v : World => v.cell? ⟨w1.heap.size, 0, none⟩ = some (.string s) ∧ v.cell? ⟨w1.heap.size, 1, none⟩ = some (.string p))
        ((refine ⟨?_, ?_⟩ <;> first | (with_reducible assumption) | (simp only [World.cell?_drew]; with_reducible assumption)))
        (first
          | (go_at_call 32
             refine (l4Any_any w2.drew g hd.2).mono ?_
             rintro e w5 ⟨⟨x, y⟩, hxy, rfl, d⟩
             have y5 : BoxAt w5 w1.heap.size [.string s, .string p] 25 := BoxAt.keeps (w := w2.drew) bx5 d.1 (by omega)
             have y3 : BoxAt w5 (w.heap.size + 1) [.string ⟨#[]⟩, .string ⟨#[]⟩] 25 := BoxAt.keeps (w := w2.drew) bx3 d.1 (by omega)
             have y2 : BoxAt w5 w.heap.size [.string ⟨#[]⟩, .string ⟨#[]⟩] 25 := BoxAt.keeps (w := w2.drew) bx2 d.1 (by omega)
             obtain ⟨⟨m0, m1⟩, r0, r1⟩ := y2.two
             obtain ⟨⟨m2, m3⟩, r2, r3⟩ := y3.two
             obtain ⟨⟨j0, j1⟩, -⟩ := y5.two
             obtain ⟨⟨s0, s1⟩, -⟩ := (y5.two_off hn1.symm (.string s) (.string p)).two
             obtain ⟨⟨t0, t1⟩, -⟩ := ((y5.two_off hn1.symm (.string s) (.string p)).two_off hn2.symm (.string x) (.string y)).two))
      all_goals (go_wp2_with fail; go_meet)
      all_goals
        have hb5 : Below w.heap.size w w5 := hb2.drew.trans (Draws.below (w := w2.drew) d (B := w.heap.size) hb2.size (by omega))
        exact ⟨rfl, (y2.two_put (.string s) (.string p)).two_off hn0 _ _, ⟨(x, y), hxy, (y3.two_off hn0.symm _ _).two_put (.string x) (.string y)⟩, below_two (below_two hb5 (Nat.le_refl _) _ _) (by omega) _ _⟩
    case rest =>
      obtain ⟨rfl, y2, ⟨⟨x, y⟩, hxy, y3⟩, hbw⟩ := hcut
      obtain ⟨⟨f0, f1⟩, -⟩ := y2.two
      obtain ⟨⟨f2, f3⟩, -⟩ := y3.two
      go_wp2
      exact bodyPost_ret (v := .tuple #[.agg #[.string s, .string p], .agg #[.string x, .string y]]) (by simp [results, Try.results16, go_sem, f0, f1, f2, f3]) rfl ⟨(s, p), (x, y), hs, hxy, rfl, hbw⟩
  · go_wp2_with (fail)
    have y2 := (bx2.two_put (.string s) (.string p)).two_off hn0 (.string s) (.string p)
    have y3 := (bx3.two_off hn0.symm (.string s) (.string p)).two_put (.string s) (.string p)
    obtain ⟨⟨f0, f1⟩, -⟩ := y2.two
    obtain ⟨⟨f2, f3⟩, -⟩ := y3.two
    have hfin := below_two (below_two hb2 (Nat.le_refl _) (.string s) (.string p)) (g := w.heap.size + 1) (by omega) (.string s) (.string p)
    clear y2 y3
    go_region
    go_wp2
    exact bodyPost_ret (v := .tuple #[.agg #[.string s, .string p], .agg #[.string s, .string p]]) (by simp [results, Try.results16, go_sem, f0, f1, f2, f3]) rfl ⟨(s, p), (s, p), hs, hs, rfl, hfin.drew⟩
end Go.Proofs.Ytpehaoamfifgbaa
