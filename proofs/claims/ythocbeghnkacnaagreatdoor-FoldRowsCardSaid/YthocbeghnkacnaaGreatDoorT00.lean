import Derived.Lib.Hide
namespace Go.Fld
theorem zh {p:Prop}(h:p):Go.RowKit.Hid p:=Go.Lib.hid h
theorem nm {α:Sort _}(a:α):∃x,x=a:=⟨a,rfl⟩
end Go.Fld
theorem Go.RowKit.Hid.o {p:Prop}(h:Go.RowKit.Hid p):p:=h.out
