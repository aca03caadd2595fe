/- Texts of few pieces: Pieces. -/
import Derived.Test.YtogopcejapklgaaGreatDoorBunY
import Derived.Test.YtogopcejapklgaaGreatDoorBunM
namespace Go.Proofs.YtogopcejapklgaaGreatDoor
open Go.RowKit

theorem row_cell (w : World) (zs : List ByteArray) (T : TypeId) (j : Nat) (hj : j < zs.length) : (w.alloc (.cells (zs.map Value.string).toArray T)).cell? ⟨w.heap.size, 0 + j, none⟩ = some (.string (zs.getD j ByteArray.empty)) := by
  rw [World.cell?_alloc_at _ _ _ _ (by simp)]
  simp [hj]

def pieZ : List ByteArray := [⟨#[116, 114, 117, 101]⟩, ⟨#[102, 97, 108, 115, 101]⟩, ⟨#[109, 101, 109, 40, 48, 44, 32, 49, 41]⟩, ⟨#[109, 101, 109]⟩, ⟨#[114, 101, 103, 40, 49, 44, 32, 48, 44, 32, 49, 41]⟩, ⟨#[97, 116, 40, 48, 44, 50, 41]⟩, ⟨#[101, 109, 112, 116, 121, 40, 48, 41]⟩, ⟨#[98, 97, 100]⟩, ⟨#[101, 110, 100, 101, 100, 40, 49, 41]⟩, ⟨#[110, 111, 116, 40]⟩, ⟨#[97, 110, 100, 40]⟩, ⟨#[111, 114, 40]⟩, ⟨#[105, 109, 112, 108, 121, 40]⟩, ⟨#[110, 101, 120, 116, 40]⟩, ⟨#[117, 110, 116, 105, 108, 40]⟩, ⟨#[114, 101, 108, 101, 97, 115, 101, 40]⟩, ⟨#[97, 108, 119, 97, 121, 115, 40]⟩, ⟨#[101, 118, 101, 114, 40]⟩, ⟨#[41]⟩, ⟨#[44, 32]⟩, ⟨#[40]⟩, ⟨#[49]⟩, ⟨#[48]⟩, ⟨#[32]⟩, ⟨#[120]⟩, ⟨#[41]⟩]
/-- The text that the numbers mean. -/
def pieL (cs : List Nat) : List UInt8 := (cs.take 20).flatMap fun c => (pieZ.getD (c % 26) ByteArray.empty).data.toList

theorem pie_len : ∀ j, j < 26 → (pieZ.getD j ByteArray.empty).size ≤ 12 := by decide
theorem take_step {cs : List Nat} {k : Nat} (hk : k < cs.length) (h20 : k < 20) (f : Nat → List UInt8) : ((cs.take 20).take (k + 1)).flatMap f = ((cs.take 20).take k).flatMap f ++ f cs[k] := by
  have hlt : k < (cs.take 20).length := by rw [List.length_take]; omega
  rw [List.take_succ_eq_append_getElem hlt, List.flatMap_append]
  simp

theorem app_list (s z : ByteArray) : (s ++ z).data.toList = s.data.toList ++ z.data.toList := by simp [ByteArray.data_append]

def PiePost (cs : List Nat) (w : World) (e : Ending) (w' : World) : Prop := ∃ s : ByteArray, e = .returned (.string s) ∧ s.data.toList = pieL cs ∧ s.size ≤ 240 ∧ Below w.heap.size w w'

set_option maxRecDepth 100000 in
set_option maxHeartbeats 8000000 in
theorem pieces_any (a : Option Addr) (n cap : Nat) (cs : List Nat) (w : World) (hl : ByIn w (In_ w) a n cap cs) :
    Calls Tryz.prog 9 #[.slice a n cap] w (PiePost cs w) := by
  obtain ⟨zk, hzk⟩ : ∃ zk : Nat → ByteArray, zk = fun j => pieZ.getD j ByteArray.empty := ⟨_, rfl⟩
  have hc : ∀ j : Nat, j < 26 → (w.alloc (.cells (pieZ.map Value.string).toArray 9)).cell? ⟨w.heap.size, j, none⟩ = some (.string (zk j)) := fun j hj => by
    have := row_cell w pieZ 9 j hj
    rw [Nat.zero_add] at this
    rw [this, hzk]
  have hzp : ∀ j, j < 26 → (zk j).size ≤ 12 := by rw [hzk]; exact pie_len
  have hspec : pieL cs = (cs.take 20).flatMap fun c => (zk (c % 26)).data.toList := by unfold pieL; rw [hzk]
  have hB : Below w.heap.size w (w.alloc (.cells (pieZ.map Value.string).toArray 9)) := (Below.refl _ w).alloc (Nat.le_refl _) _
  have hn := hl.1
  subst hn
  clear hzk
  simp only [pieZ, List.map_cons, List.map_nil] at hc hB
  go_enter Tryz.func9, Tryz.ntmps9
  go_wp2_with fail
  have hl1 := (Kp.of hB).bytes hl
  generalize World.alloc w _ = W0 at hc hB hl1 ⊢
  have Hl := hid hl1
  clear hl hl1
  go_loopw [4, 5] (fun v i wr => ∃ (k : Nat) (s : ByteArray), k ≤ cs.length ∧ k ≤ 20 ∧ v = .string s ∧ i = .int .i64 k ∧ Hid (s.data.toList = ((cs.take 20).take k).flatMap fun c => (zk (c % 26)).data.toList) ∧ s.size ≤ 12 * k ∧ W0 = wr) (fun _ i _ => cs.length - (intOf i).toNat)
  case atStart => exact ⟨0, ⟨#[]⟩, Nat.zero_le _, Nat.zero_le _, rfl, rfl, by simp [Hid], by decide, rfl⟩
  case round =>
    obtain ⟨k, s, hk, hk20, rfl, rfl, hs, hsz, hw⟩ := hrel
    subst hw
    by_cases hgo : k < cs.length ∧ k < 20
    · obtain ⟨hlt, h20⟩ := hgo
      obtain ⟨b, off, rfl, hb, hcell⟩ := Hl.out.at_ k hlt
      have hstep := take_step hlt h20 (fun c => (zk (c % 26)).data.toList)
      have h256 : cs[k] < 256 := Hl.out.2.1 _ (List.getElem_mem hlt)
      generalize cs[k] = c at hcell hstep h256
      have hm : c % 26 < 26 := Nat.mod_lt _ (by decide)
      have hck := hc _ hm
      have hzz := hzp _ hm
      have k0 : (0 : Int) ≤ k := by omega
      have k1 : (k : Int) < cs.length := by omega
      have k2 : (k : Int) < 20 := by omega
      have d1 : decide ((k : Int) < cs.length) = true := decide_eq_true k1
      have d2 : decide ((k : Int) < 20) = true := decide_eq_true k2
      have hmI : ((c % 26 : Nat) : Int) = (c : Int) % 26 := by omega
      have htm : (c : Int).tmod 26 = ((c % 26 : Nat) : Int) := by rw [Int.tmod_eq_emod_of_nonneg (by omega)]; omega
      generalize c % 26 = m at hstep hm hck hzz htm hmI
      have m0 : (0 : Int) ≤ m := by omega
      have m1 : (m : Int) < 26 := by omega
      have hbl := hb.lt
      have hsmall : s.size ≤ 1000 := by omega
      have hz1 : (zk m).size ≤ 1000 := by omega
      generalize zk m = z at hstep hck hzz hz1
      have c0 : (0 : Int) ≤ c := by omega
      have c1 : (c : Int) < 256 := by omega
      clear hc hspec hzp hmI
      go_wp2_with fail
      refine ⟨⟨k + 1, s ++ z, hlt, h20, rfl, by simp, ?_, by rw [ByteArray.size_append]; omega, trivial⟩, by simp [intOf]; omega⟩
      show _ = _
      rw [app_list, hstep, hs.out]
    · have hfin : Hid (PiePost cs w (.returned (.string s)) W0) := by
        refine ⟨s, rfl, ?_, by omega, hB⟩
        rw [hs.out, hspec, List.take_of_length_le]
        rw [List.length_take]
        omega
      clear hspec hc
      by_cases hk2 : k < cs.length
      · obtain rfl : k = 20 := by omega
        have d1 : decide ((20 : Int) < cs.length) = true := decide_eq_true (by omega)
        have d1' : (20 : Int) < cs.length := by omega
        go_wp2_with fail
        go_ret
        exact hfin.out
      · obtain rfl : k = cs.length := by omega
        have d1 : decide ((cs.length : Int) < cs.length) = false := decide_eq_false (by omega)
        go_wp2_with fail
        go_ret
        exact hfin.out

end Go.Proofs.YtogopcejapklgaaGreatDoor
namespace Go.Proofs.YtogopcejapklgaaGreatDoor
open Go.RowKit

/-- Parse, as the law wants it. -/
theorem rg_parse (s : ByteArray) (w : World) (hV : Vars w) : Calls Tryz.prog 12 #[.string s] w fun e w' => Below w.heap.size w w' ∧
    ((∃ (er at_ : Int) (a : Option Addr) (cap : Nat), e = .returned (.tuple #[.agg #[.int .i64 0, .int .i64 0, .int .i64 0, .int .i64 0, .int .i64 0, .slice a 0 cap], .int .i64 er, .int .i64 at_]) ∧ er ≠ 0 ∧ 0 ≤ at_ ∧ at_ ≤ s.size) ∨
     (∃ (f : Fm) (a : Option Addr) (cap : Nat), e = .returned (.tuple #[.agg #[.int .i64 f.kind, .int .i64 f.prop.k, .int .i64 f.prop.t, .int .i64 f.prop.a, .int .i64 f.prop.n, .slice a f.kids.length cap], .int .i64 0, .int .i64 0]) ∧ okD 20 f ∧ f.size ≤ 200 ∧ FmIn w' (In_ w') (fmC f.kind f.prop a f.kids.length cap) f)) := by
  refine (lparse_any s w hV).mono ?_
  rintro e w' ⟨a, cap, rfl, hF, hb⟩
  refine ⟨hb, ?_⟩
  have hs := prsR_spec s.data.toList
  generalize prsR s.data.toList = r at *
  obtain ⟨f, er, at_⟩ := r
  rcases hs with ⟨h1, h2, h3, h4⟩ | ⟨h1, h2, h3, h4, -, -⟩
  · right
    dsimp only at h1 h2 h3 h4 hF ⊢
    subst h1 h2
    exact ⟨f, a, cap, rfl, h3, h4, hF⟩
  · left
    dsimp only at h1 h2 h3 h4 hF ⊢
    subst h2
    exact ⟨er, at_, a, cap, rfl, h1, h3, by rw [data_len] at h4; exact h4⟩
/-- Parse of a right formula's text. -/
theorem rg_again (f : Fm) (h : okD 20 f) (hs : f.size ≤ 200) (w : World) (hV : Vars w) : Calls Tryz.prog 12 #[strV (txtF f)] w fun e w' => ∃ a cap, e = .returned (.tuple #[.agg #[.int .i64 f.kind, .int .i64 f.prop.k, .int .i64 f.prop.t, .int .i64 f.prop.a, .int .i64 f.prop.n, .slice a f.kids.length cap], .int .i64 0, .int .i64 0]) ∧
    FmIn w' (In_ w') (fmC f.kind f.prop a f.kids.length cap) f ∧ Below w.heap.size w w' := by
  refine (lparse_any ⟨(txtF f).toArray⟩ w hV).mono ?_
  rintro e w' h'
  unfold PrsPost at h'
  rw [show (⟨(txtF f).toArray⟩ : ByteArray).data.toList = txtF f from by simp, prsR_txt h hs] at h'
  exact h'
theorem rg_bad (s : ByteArray) (w : World) (hV : Vars w) (h : (prsR s.data.toList).2.1 ≠ 0 ∧ (prsR s.data.toList).1 = zeroF) : Calls Tryz.prog 12 #[.string s] w fun e w' => Below w.heap.size w w' ∧
    ∃ (a : Option Addr) (cap : Nat), e = .returned (.tuple #[.agg #[.int .i64 0, .int .i64 0, .int .i64 0, .int .i64 0, .int .i64 0, .slice a 0 cap], .int .i64 (prsR s.data.toList).2.1, .int .i64 (prsR s.data.toList).2.2]) := by
  refine (lparse_any s w hV).mono ?_
  rintro e w' ⟨a, cap, rfl, hF, hb⟩
  refine ⟨hb, a, cap, ?_⟩
  rw [h.2]
  rfl
theorem rg_good (s : ByteArray) (w : World) (hV : Vars w) (f : Fm) (h : prsR s.data.toList = (f, 0, 0)) : Calls Tryz.prog 12 #[.string s] w fun e w' => ∃ (a : Option Addr) (cap : Nat), e = .returned (.tuple #[.agg #[.int .i64 f.kind, .int .i64 f.prop.k, .int .i64 f.prop.t, .int .i64 f.prop.a, .int .i64 f.prop.n, .slice a f.kids.length cap], .int .i64 0, .int .i64 0]) ∧
    FmIn w' (In_ w') (fmC f.kind f.prop a f.kids.length cap) f ∧ Below w.heap.size w w' := by
  refine (lparse_any s w hV).mono ?_
  rintro e w' h'
  unfold PrsPost at h'
  rw [h] at h'
  exact h'
end Go.Proofs.YtogopcejapklgaaGreatDoor
namespace Go.Proofs.YtogopcejapklgaaGreatDoor
open Go.RowKit

/-- A formula's box, and what has been kept. -/
structure RgS (w x : World) (B : Nat) (f : Fm) (a : Option Addr) (cap : Nat) : Prop where
  bl : Below w.heap.size w x
  hp : x.heap[B]? = some (.cells #[.int .i64 f.kind, .int .i64 f.prop.k, .int .i64 f.prop.t, .int .i64 f.prop.a, .int .i64 f.prop.n, .slice a f.kids.length cap] 30 (0, 0))
  fm : FmIn x (In_ x) (fmC f.kind f.prop a f.kids.length cap) f
namespace RgS
variable {w x y : World} {B cap : Nat} {f : Fm} {a : Option Addr}
theorem six (h : RgS w x B f a cap) : x.cell? ⟨B, 0, none⟩ = some (.int .i64 f.kind) ∧ x.cell? ⟨B, 1, none⟩ = some (.int .i64 f.prop.k) ∧ x.cell? ⟨B, 2, none⟩ = some (.int .i64 f.prop.t) ∧ x.cell? ⟨B, 3, none⟩ = some (.int .i64 f.prop.a) ∧ x.cell? ⟨B, 4, none⟩ = some (.int .i64 f.prop.n) ∧ x.cell? ⟨B, 5, none⟩ = some (.slice a f.kids.length cap) := by
  refine ⟨?_, ?_, ?_, ?_, ?_, ?_⟩
  all_goals (rw [cell_of_heap h.hp]; rfl)
theorem lt (h : RgS w x B f a cap) : B < x.heap.size := (Array.getElem?_eq_some_iff.1 h.hp).1
theorem below (h : RgS w x B f a cap) (hb : Below x.heap.size x y) : RgS w y B f a cap :=
  ⟨h.bl.trans (hb.mono h.bl.size), (hb.block _ h.lt).trans h.hp, (h.fm.keep fun b o hlt => hb.cell (p := ⟨b, o, none⟩) hlt).widen fun _b hlt => Nat.lt_of_lt_of_le hlt hb.size⟩
theorem new {x : World} (hb : Below w.heap.size w x) (hf : FmIn x (In_ x) (fmC f.kind f.prop a f.kids.length cap) f) : RgS w (x.alloc (.cells #[.int .i64 f.kind, .int .i64 f.prop.k, .int .i64 f.prop.t, .int .i64 f.prop.a, .int .i64 f.prop.n, .slice a f.kids.length cap] 30)) x.heap.size f a cap := by
  have hb2 := (Below.refl x.heap.size x).alloc (Nat.le_refl _) (.cells #[.int .i64 f.kind, .int .i64 f.prop.k, .int .i64 f.prop.t, .int .i64 f.prop.a, .int .i64 f.prop.n, .slice a f.kids.length cap] 30)
  exact ⟨hb.trans (hb2.mono hb.size), alloc_at rfl, (hf.keep fun b o hlt => hb2.cell (p := ⟨b, o, none⟩) hlt).widen fun b hlt => Nat.lt_of_lt_of_le hlt hb2.size⟩
end RgS
end Go.Proofs.YtogopcejapklgaaGreatDoor
