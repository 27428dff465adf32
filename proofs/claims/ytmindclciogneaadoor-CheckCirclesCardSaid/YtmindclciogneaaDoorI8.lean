/- What the reader's text does. -/
import Derived.Test.YtmindclciogneaaDoorI7
namespace Go.Proofs.YtmindclciogneaaDoor
open Go.RowKit

theorem results_tmp4 {P : Program} {fn : Func} {t u v x : Tmp} (h : fn.results = #[.tmp t, .tmp u, .tmp v, .tmp x]) (tmps : Array Value) (w : World) :
    (results fn tmps).run P w = .ok (.tuple #[tmps.getD t undef, tmps.getD u undef, tmps.getD v undef, tmps.getD x undef]) w := by
  simp [results, h]
theorem plainLen_le (l : Bs) (flow : Bool) : plainLen l flow ≤ l.length := by
  unfold plainLen
  split
  · have h1 := trimLen_le (l.take (runLen flow false l))
    rw [List.length_take] at h1
    omega
  · omega

set_option maxRecDepth 20000 in
set_option maxHeartbeats 400000 in
theorem text_at (R : Nat) (A : Option Addr) (c : Nat) (b : Bs) (k : Nat) (flow : Bool) (w : World) (h : RB w R A c b) (hk : k ≤ b.length) :
    Calls Tryd.prog 120 #[.pointer (some ⟨R, 0, none⟩), .int .i64 k, .bool flow] w fun e w' => e = .returned (.tuple #[.string ⟨(textB b k flow).1.toArray⟩, .int .i64 (textB b k flow).2.1, .int .i64 (textB b k flow).2.2.1, .bool (textB b k flow).2.2.2]) ∧ Below w.heap.size w w' := by
  have hbig := h.big
  have c1 := is_any R A c b k [34] w h (by omega)
  have c2 := is_any R A c b k [39] w h (by omega)
  obtain ⟨hc0, hba, hcap, _⟩ := h
  obtain ⟨V, hV⟩ : ∃ V, textB b k flow = V := ⟨_, rfl⟩
  rw [hV]
  unfold textB at hV
  have hba := hba.drop k hcap
  have hTl : (b.drop k).length = b.length - k := List.length_drop
  have hsl := fun W => cut_from (P := Tryd.prog) 51 5 .i64 Tryd.underlying51 Tryd.sizeOf5 A b.length c k hk W
  rw [← hTl] at hsl
  have cd := fun W (hW : BA W (cutA A c k) (b.drop k)) => take_any (cutA A c k) (c - k) (b.drop k) W hW (by omega) (by omega)
  have cs := fun W (hW : BA W (cutA A c k) (b.drop k)) => takeS_any (cutA A c k) (c - k) (b.drop k) W hW (by omega) (by omega)
  have cp := fun W (hW : BA W (cutA A c k) (b.drop k)) => length_any (cutA A c k) (c - k) (b.drop k) flow W hW (by omega) (by omega)
  have hpl := plainLen_le (b.drop k) flow
  have hcc : (b.drop k).length ≤ c - k := by omega
  have hbp := hba.take (plainLen (b.drop k) flow)
  have hHV := Lib.hid hV
  clear hV hTl
  generalize plainLen (b.drop k) flow = pl at *
  generalize b.drop k = T at *
  generalize cutA A c k = A1 at *
  generalize isB b k [34] = q1 at *
  generalize isB b k [39] = q2 at *
  go_enter Tryd.func120, Tryd.ntmps120
  go_wp2_with fail
  refine c1.mono ?_
  rintro e w' ⟨rfl, rfl⟩
  clear c1
  cases q1
  case true =>
    have HF : Hid (V = ((takeD T).1, 3, (takeD T).2.1, (takeD T).2.2)) := Lib.hid (by rw [← hHV.out]; rfl)
    have cd := cd w hba
    clear cs cp c2 hHV hbp
    generalize takeD T = D at *
    go_wp2_with fail
    refine cd.mono ?_
    rintro e w1 ⟨rfl, hb⟩
    go_wp2
    (try simp only [Exit.inBlock, Exit.then])
    refine bodyPost_ret (results_tmp4 rfl _ _) rfl ?_
    exact ⟨by rw [HF.out]; rfl, hb⟩
  case false =>
    go_wp2_with fail
    refine c2.mono ?_
    rintro e w' ⟨rfl, rfl⟩
    clear c2
    cases q2
    case true =>
      have HF : Hid (V = ((takeS T).1, 2, (takeS T).2.1, (takeS T).2.2)) := Lib.hid (by rw [← hHV.out]; rfl)
      have cs := cs w hba
      clear cd cp hHV hbp
      generalize takeS T = D at *
      go_wp2_with fail
      refine cs.mono ?_
      rintro e w1 ⟨rfl, hb⟩
      go_wp2
      (try simp only [Exit.inBlock, Exit.then])
      refine bodyPost_ret (results_tmp4 rfl _ _) rfl ?_
      exact ⟨by rw [HF.out]; rfl, hb⟩
    case false =>
      have HF : Hid (V = (T.take pl, 1, pl, true)) := Lib.hid (by rw [← hHV.out]; rfl)
      have cp := cp w hba
      have hTp : (T.take pl).length = pl := by rw [List.length_take]; omega
      have hsl2 := fun W => cut_to (P := Tryd.prog) 51 5 .i64 Tryd.underlying51 Tryd.sizeOf5 A1 T.length (c - k) pl (by omega) W
      have hcv := conv_str (P := Tryd.prog) w 51 9 5 Tryd.underlying51 Tryd.underlying5 Tryd.underlying9 A1 (c - k) (T.take pl) hbp
      rw [hTp] at hcv
      clear cd cs hHV hTp
      generalize T.take pl = N at *
      go_wp2_with fail
      refine cp.mono ?_
      rintro e w1 ⟨rfl, rfl⟩
      go_wp2
      (try simp only [Exit.inBlock, Exit.then])
      refine bodyPost_ret (results_tmp4 rfl _ _) rfl ?_
      exact ⟨by rw [HF.out]; rfl, Below.refl _ _⟩
end Go.Proofs.YtmindclciogneaaDoor
