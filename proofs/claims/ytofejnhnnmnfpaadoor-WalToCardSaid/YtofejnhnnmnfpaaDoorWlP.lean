/- A log as plain data: what its methods answer. No condition. -/
import Derived.Test.YtofejnhnnmnfpaaDoorWlM
import Derived.Test.YtofejnhnnmnfpaaDoorFBa
namespace Go.Proofs.YtofejnhnnmnfpaaDoor
set_option maxRecDepth 100000

/-- How many sectors records take. -/
def lcnt (l : List (List UInt8)) : Nat := ((Fr.bytesOf l).length + 55) / 56
def lapp (L : Lg) (r : Rc.Rec) : Lg × Int × Int :=
  if Rc.recOk r = false then (L, 0, 1)
  else if (L.secs : Int) - L.end_ < lcnt (L.wait ++ [Rc.enc r]) then (L, 0, 7)
  else ({ L with l := L.l ++ [r], wait := L.wait ++ [Rc.enc r] }, L.l.length + 1, 0)
/-- Sectors written one behind the other. -/
def lwr (d : Dq.Dk) (n : Int) : List (List UInt8) → Dq.Dk × Int
  | [] => (d, 0)
  | b :: bs => if (Dq.dwrite d n b).2 = 0 then lwr (Dq.dwrite d n b).1 (n + 1) bs else Dq.dwrite d n b
def lflush (L : Lg) (d : Dq.Dk) : Lg × Dq.Dk × Int :=
  if L.wait = [] then (L, d, 0)
  else if Fr.batOk L.epoch L.end_ L.wait = false then (L, d, 1)
  else if (lwr d (L.first + L.end_) (Fr.batD L.epoch L.end_ L.wait)).2 ≠ 0 then (L, lwr d (L.first + L.end_) (Fr.batD L.epoch L.end_ L.wait))
  else if (Dq.dsync (lwr d (L.first + L.end_) (Fr.batD L.epoch L.end_ L.wait)).1).2 ≠ 0 then (L, Dq.dsync (lwr d (L.first + L.end_) (Fr.batD L.epoch L.end_ L.wait)).1)
  else ({ L with wait := [], end_ := L.end_ + (Fr.batD L.epoch L.end_ L.wait).length }, (Dq.dsync (lwr d (L.first + L.end_) (Fr.batD L.epoch L.end_ L.wait)).1).1, 0)
end Go.Proofs.YtofejnhnnmnfpaaDoor
