/- RegisterOrder as a call: the call itself. -/
import Derived.Test.YtpbpmbfgcgjgdaaRegJ
namespace Go.Eng
open Go Go.Proofs Go.RowKit
set_option maxHeartbeats 4000000

def cOrd (few : List UInt8 → List UInt8 → Bool) (nw : Reg3 → Reg3 → Bool) (j : Reg3 → Reg3 → Reg3) : Oracle := fun _ f args => match f, args with
  | 7, [] => some ⟨.val (.bool true), []⟩
  | 6, [.agg [.int .i64 _, .str y, .str v]] => some ⟨.val (.bool (few y v)), []⟩
  | 10, [.agg [.int .i64 n, .str y, .str v], .agg [.int .i64 n', .str y', .str v']] => some ⟨.val (.bool (nw (n, y, v) (n', y', v'))), []⟩
  | 12, [.agg [.int .i64 n, .str y, .str v], .agg [.int .i64 n', .str y', .str v']] => some ⟨.val (.agg [.int .i64 (j (n, y, v) (n', y', v')).1, .str (j (n, y, v) (n', y', v')).2.1, .str (j (n, y, v) (n', y', v')).2.2]), []⟩
  | _, _ => none
theorem cOrd_ok : Sound Try.prog (cOrd fewS newer3 join3) := by
  intro id args r ks h _
  unfold cOrd at h
  split at h
  · cases h; exact awake_c
  · cases h; exact few_c _ _ _
  · cases h; have := newer_c; rw [newer_eq] at this; exact this _ _ _ _ _ _
  · rename_i n y v n' y' v'
    cases h
    have := join_c n y v n' y' v'
    rw [newer_eq] at this
    obtain ⟨e1, e2, e3⟩ := join3_parts (n, y, v) (n', y', v')
    rw [← e1, ← e2, ← e3]
    exact this
  · cases h

theorem registerOrder_c (n : Int) (y v : List UInt8) (n' : Int) (y' v' : List UInt8) (n'' : Int) (y'' v'' : List UInt8) :
    ACalls Try.prog 5 [.agg [.int .i64 n, .str y, .str v], .agg [.int .i64 n', .str y', .str v'], .agg [.int .i64 n'', .str y'', .str v'']] (.val (.bool true)) := by
  have hc := cOrd_ok
  have l1 := join3_comm (n, y, v) (n', y', v')
  have l2 := join3_idem (n, y, v)
  have l3 := join3_either (n, y, v) (n', y', v')
  have l4 := newer3_both (n, y, v) (n', y', v')
  have l5 := newer3_tri (n, y, v) (n', y', v')
  have l6 := join3_assoc (n, y, v) (n', y', v') (n'', y'', v'')
  generalize fewS = g1 at hc
  generalize newer3 = g2 at hc l4 l5
  generalize join3 = g3 at hc l1 l2 l3 l6
  refine ACalls.ofK Try.func5 rfl nms mix tabOk hc ?_
  intro p L K hp hL hK ha
  cbv
  split
  · cbv
    rw [hK]
    exact post_ret rfl rfl
  · cbv
    split
    · rename_i h
      exfalso
      subst hp
      simp only [std] at h
      rcases l3 with e | e <;> rw [l1] at e <;> simp [l1, l2, e] at h <;> exact l4 (by simpa using h)
    · cbv
      split
      · rename_i h
        exfalso
        subst hp
        simp [std] at h
        obtain ⟨⟨h1, h2⟩, h3⟩ := h
        have := l5 h2 h3
        simp at this
        obtain ⟨e1, e2, e3⟩ := this
        simp [e1, e2, e3] at h1
      · cbv
        rw [hK]
        refine post_ret rfl ?_
        clear hK hL
        subst hp
        show AV.bool _ = _
        congr 1
        simp [std, l6]

end Go.Eng
