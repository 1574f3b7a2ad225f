/-
  Plain: mirrored, turned by quarters and moved, two segments meet and lie near alike.
-/
import Derived.Test.YtpjgghakeaajbaaSegR
namespace Go.Proofs.Ytpjgghakeaajbaa

structure Iso (f : Pt → Pt) : Prop where
  cr : ∃ e : Int, (e = 1 ∨ e = -1) ∧ ∀ a b c d, cr (sb (f a) (f b)) (sb (f c) (f d)) = e * cr (sb a b) (sb c d)
  dt : ∀ a b c d, dt (sb (f a) (f b)) (sb (f c) (f d)) = dt (sb a b) (sb c d)

theorem Iso.inj {f : Pt → Pt} (h : Iso f) {a b : Pt} : f a = f b ↔ a = b := by
  refine ⟨fun e => Decidable.byContradiction fun hn => ?_, fun e => by rw [e]⟩
  have := sb_pos hn
  rw [← h.dt, e, sb_self] at this
  simp [Go.Proofs.Ytpjgghakeaajbaa.dt] at this
theorem Iso.on {f : Pt → Pt} (h : Iso f) (p a b : Pt) : onP (f p) (f a, f b) = onP p (a, b) := by
  refine bool_iff (onP_iff.trans (Iff.trans ?_ onP_iff.symm))
  obtain ⟨e, he, hc⟩ := h.cr
  unfold On
  rw [hc, h.dt]
  rcases he with rfl | rfl <;> omega
theorem sg_mul {e D : Int} (he : e = 1 ∨ e = -1) (hD : ¬ D = 0) (z : Int) : sg (e * D) * (e * z) = sg D * z := by
  rcases he with rfl | rfl
  · rw [Int.one_mul, Int.one_mul]
  · rw [show -1 * D = -D by omega, show -1 * z = -z by omega, sg_neg hD, Int.neg_mul_neg]
theorem Iso.meet {f : Pt → Pt} (h : Iso f) {a b c d : Pt} (h1 : (inP a && inP b && inP c && inP d) = true) (h2 : (inP (f a) && inP (f b) && inP (f c) && inP (f d)) = true) : meet (f a) (f b) (f c) (f d) = meet a b c d := by
  obtain ⟨e, he, hc⟩ := h.cr
  unfold Go.Proofs.Ytpjgghakeaajbaa.meet
  rw [h1, h2, if_pos rfl, if_pos rfl, h.on, hc, hc, hc, hc, h.dt, h.dt, h.dt]
  rcases Decidable.em (a = b) with hab | hab
  · rw [if_pos hab, if_pos (h.inj.2 hab)]
  · rw [if_neg hab, if_neg (fun x => hab (h.inj.1 x))]
    rcases Decidable.em (Go.Proofs.Ytpjgghakeaajbaa.cr (sb a b) (sb c d) = 0) with h0 | h0
    · rw [if_pos h0, if_pos (by rw [h0, Int.mul_zero])]
      rcases Decidable.em (Go.Proofs.Ytpjgghakeaajbaa.cr (sb a b) (sb a c) = 0) with h3 | h3
      · rw [if_pos h3, if_pos (by rw [h3, Int.mul_zero])]
      · rw [if_neg h3, if_neg (by rcases he with rfl | rfl <;> omega)]
    · rw [if_neg h0, if_neg (by rcases he with rfl | rfl <;> omega), sg_mul he h0, sg_mul he h0, sg_mul he h0]
theorem Iso.touches {f : Pt → Pt} (h : Iso f) {a b c d : Pt} (h1 : (inP a && inP b && inP c && inP d) = true) (h2 : (inP (f a) && inP (f b) && inP (f c) && inP (f d)) = true) : touches (f a) (f b) (f c) (f d) = touches a b c d := by
  unfold Go.Proofs.Ytpjgghakeaajbaa.touches
  rw [h.meet h1 h2]
theorem Iso.foot {f : Pt → Pt} (h : Iso f) {p a b : Pt} (h1 : (inP p && inP a && inP b) = true) (h2 : (inP (f p) && inP (f a) && inP (f b)) = true) : foot (f p) (f a) (f b) = foot p a b := by
  unfold Go.Proofs.Ytpjgghakeaajbaa.foot
  rw [h1, h2, if_pos rfl, if_pos rfl, h.dt, h.dt]
  rcases Decidable.em (a = b) with hab | hab
  · rw [if_pos hab, if_pos (h.inj.2 hab)]
  · rw [if_neg hab, if_neg (fun x => hab (h.inj.1 x))]
theorem Iso.nearR {f : Pt → Pt} (h : Iso f) (p a b : Pt) (r : Int) : nearR (f p) (f a) (f b) r = nearR p a b r := by
  obtain ⟨e, he, hc⟩ := h.cr
  unfold Go.Proofs.Ytpjgghakeaajbaa.nearR
  rw [hc, h.dt, h.dt, h.dt, h.dt]
  rw [show ∀ z : Int, e * z * (e * z) = z * z from fun z => by rcases he with rfl | rfl <;> grind]
theorem Iso.near {f : Pt → Pt} (h : Iso f) {p a b : Pt} (r : Int) (h1 : (inP p && inP a && inP b) = true) (h2 : (inP (f p) && inP (f a) && inP (f b)) = true) : near (f p) (f a) (f b) r = near p a b r := by
  unfold Go.Proofs.Ytpjgghakeaajbaa.near
  rw [h1, h2, h.nearR]
theorem Iso.nearSeg {f : Pt → Pt} (h : Iso f) {a b c d : Pt} (r : Int) (h1 : (inP a && inP b && inP c && inP d) = true) (h2 : (inP (f a) && inP (f b) && inP (f c) && inP (f d)) = true) : nearSeg (f a) (f b) (f c) (f d) r = nearSeg a b c d r := by
  obtain ⟨ia, ib, ic, iz⟩ := in_parts h1
  obtain ⟨ja, jb, jc, jz⟩ := in_parts h2
  unfold Go.Proofs.Ytpjgghakeaajbaa.nearSeg
  rw [h1, h2, h.touches h1 h2, h.near r (by rw [ia, ic, iz]; rfl) (by rw [ja, jc, jz]; rfl), h.near r (by rw [ib, ic, iz]; rfl) (by rw [jb, jc, jz]; rfl),
    h.near r (by rw [ic, ia, ib]; rfl) (by rw [jc, ja, jb]; rfl), h.near r (by rw [iz, ia, ib]; rfl) (by rw [jz, ja, jb]; rfl)]

/-- Mirrored; turned by a quarter; by k quarters; all of it and moved. -/
def mir (m : Bool) (p : Pt) : Pt := if m then (-p.1, p.2) else p
def qt (p : Pt) : Pt := (-p.2, p.1)
def qts : Nat → Pt → Pt
  | 0, p => p
  | k + 1, p => qt (qts k p)
def mvq (m : Bool) (k : Nat) (d : Pt) (p : Pt) : Pt := mv d (qts k (mir m p))

theorem Iso.comp {f g : Pt → Pt} (hf : Iso f) (hg : Iso g) : Iso (fun p => f (g p)) := by
  obtain ⟨e, he, hc⟩ := hf.cr
  obtain ⟨e', he', hc'⟩ := hg.cr
  refine ⟨⟨e * e', ?_, fun a b c d => ?_⟩, fun a b c d => ?_⟩
  · rcases he with rfl | rfl <;> rcases he' with rfl | rfl <;> simp
  · rw [hc, hc', Int.mul_assoc]
  · rw [hf.dt, hg.dt]
theorem iso_id : Iso (fun p => p) := ⟨⟨1, Or.inl rfl, fun a b c d => by rw [Int.one_mul]⟩, fun _ _ _ _ => rfl⟩
theorem iso_mir (m : Bool) : Iso (mir m) := by
  cases m
  · exact iso_id
  · refine ⟨⟨-1, Or.inr rfl, fun a b c d => ?_⟩, fun a b c d => ?_⟩
    · simp only [mir, cr, sb]; grind
    · simp only [mir, dt, sb]; grind
theorem iso_qt : Iso qt := by
  refine ⟨⟨1, Or.inl rfl, fun a b c d => ?_⟩, fun a b c d => ?_⟩
  · simp only [qt, cr, sb]; grind
  · simp only [qt, dt, sb]; grind
theorem iso_qts : ∀ k : Nat, Iso (qts k)
  | 0 => iso_id
  | k + 1 => iso_qt.comp (iso_qts k)
theorem iso_mv (v : Pt) : Iso (mv v) := by
  refine ⟨⟨1, Or.inl rfl, fun a b c d => ?_⟩, fun a b c d => ?_⟩
  · simp only [mv, cr, sb]; grind
  · simp only [mv, dt, sb]; grind
theorem iso_mvq (m : Bool) (k : Nat) (v : Pt) : Iso (mvq m k v) := (iso_mv v).comp ((iso_qts k).comp (iso_mir m))

end Go.Proofs.Ytpjgghakeaajbaa
